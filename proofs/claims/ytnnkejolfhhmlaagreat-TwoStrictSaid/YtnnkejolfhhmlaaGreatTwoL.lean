/- two.Play, in plain Lean: who ends; how much there is. -/
import Derived.Test.YtnnkejolfhhmlaaGreatLkI
import Derived.Test.YtnnkejolfhhmlaaGreatGrB
import Derived.Test.YtnnkejolfhhmlaaGreatVicV
import Derived.Test.YtnnkejolfhhmlaaGreatChkI
namespace Go.Proofs.YtnnkejolfhhmlaaGreat
section
namespace LkM
abbrev Tb := Nat → Nat → Bool
def set2 (f : Tb) (a b : Nat) (v : Bool) : Tb := fun x y => if x = a ∧ y = b then v else f x y
def Le (f g : Tb) : Prop := ∀ x y, f x y = true → g x y = true
def markH (w : LkM) (m : Int) (f : Tb) (l : List LkM) : Tb := l.foldl (fun f h => set2 f w.tx.toNat h.tx.toNat (f w.tx.toNat h.tx.toNat || bars w.tx m h)) f
def markV (w : LkM) (f : Tb) (l : List LkM) : Tb := l.foldl (fun f v => set2 f w.tx.toNat v.tx.toNat true) f
/-- The first k of a queue. -/
def markQ (x : LiM) (f : Tb) : Nat → Tb
  | 0 => f
  | k + 1 => match x.queue[k]? with
    | some w => markV w (markH w (wish x.held w) (markQ x f k) x.held) (x.queue.take k)
    | none => markQ x f k
def markT (f : Tb) (t : List LiM) : Tb := t.foldl (fun f x => markQ x f x.queue.length) f
def edgesTo (f : Tb) (a : Nat) (k : Nat) : List EgM := ((List.range k).filter (f a)).map fun (b : Nat) => ⟨(a : Int), (b : Int)⟩
def edgesOf (f : Tb) (k : Nat) : List EgM := (List.range k).flatMap fun a => edgesTo f a 12
def waits (t : List LiM) : List EgM := edgesOf (markT (fun _ _ => false) t) 12
theorem Le.refl (f : Tb) : Le f f := fun _ _ h => h
theorem Le.trans {f g h : Tb} (a : Le f g) (b : Le g h) : Le f h := fun x y hx => b x y (a x y hx)
theorem le_set {f : Tb} {a b : Nat} {v : Bool} (h : f a b = true → v = true) : Le f (set2 f a b v) := fun x y hx => by
  unfold set2
  split
  · rename_i e; rw [e.1, e.2] at hx; exact h hx
  · exact hx
theorem set_at (f : Tb) (a b : Nat) (v : Bool) : set2 f a b v a b = v := by unfold set2; simp
theorem markH_le (w : LkM) (m : Int) : ∀ (l : List LkM) (f : Tb), Le f (markH w m f l)
  | [], f => Le.refl f
  | h :: r, f => (le_set (fun e => by rw [e]; rfl)).trans (markH_le w m r _)
theorem markV_le (w : LkM) : ∀ (l : List LkM) (f : Tb), Le f (markV w f l)
  | [], f => Le.refl f
  | _ :: r, _ => (le_set (fun _ => rfl)).trans (markV_le w r _)
theorem markQ_le (x : LiM) (f : Tb) : ∀ k, Le f (markQ x f k)
  | 0 => Le.refl f
  | k + 1 => by
    unfold markQ
    split
    · exact (markQ_le x f k).trans ((markH_le _ _ _ _).trans (markV_le _ _ _))
    · exact markQ_le x f k
theorem markQ_mono (x : LiM) (f : Tb) {j : Nat} : ∀ k, j ≤ k → Le (markQ x f j) (markQ x f k)
  | 0, h => by obtain rfl : j = 0 := by omega
               exact Le.refl _
  | k + 1, h => by
    by_cases e : j = k + 1
    · subst e; exact Le.refl _
    · refine (markQ_mono x f k (by omega)).trans ?_
      conv => rhs; unfold markQ
      split
      · exact (markH_le _ _ _ _).trans (markV_le _ _ _)
      · exact Le.refl _
theorem markT_le : ∀ (t : List LiM) (f : Tb), Le f (markT f t)
  | [], f => Le.refl f
  | x :: r, f => (markQ_le x f _).trans (markT_le r _)
theorem markH_hit (w : LkM) (m : Int) : ∀ (l : List LkM) (f : Tb) (h : LkM), h ∈ l → bars w.tx m h = true → markH w m f l w.tx.toNat h.tx.toNat = true
  | [], f, h, hh, _ => by cases hh
  | a :: r, f, h, hh, hb => by
    rcases List.mem_cons.1 hh with rfl | hh
    · exact markH_le w m r _ _ _ ((set_at _ _ _ _).trans (by rw [hb, Bool.or_true]))
    · exact markH_hit w m r _ h hh hb
theorem markV_hit (w : LkM) : ∀ (l : List LkM) (f : Tb) (h : LkM), h ∈ l → markV w f l w.tx.toNat h.tx.toNat = true
  | [], f, h, hh => by cases hh
  | a :: r, f, h, hh => by
    rcases List.mem_cons.1 hh with rfl | hh
    · exact markV_le w r _ _ _ (set_at _ _ _ _)
    · exact markV_hit w r _ h hh
theorem markQ_hit {x : LiM} (h : Ok x) (f : Tb) {k : Nat} (hk : k < x.queue.length) : ∃ b : Nat, b < 12 ∧ markQ x f (k + 1) x.queue[k].tx.toNat b = true := by
  have e : markQ x f (k + 1) = markV x.queue[k] (markH x.queue[k] (wish x.held x.queue[k]) (markQ x f k) x.held) (x.queue.take k) := by
    conv => lhs; unfold markQ
    rw [List.getElem?_eq_getElem hk]
  rw [e]
  clear e
  rcases (show k = 0 ∨ ∃ j, k = j + 1 by cases k with | zero => exact Or.inl rfl | succ j => exact Or.inr ⟨j, rfl⟩) with rfl | ⟨j, rfl⟩
  ·
    have hq : x.queue = x.queue[0] :: x.queue.drop 1 := by
      have := List.drop_eq_getElem_cons hk
      rwa [List.drop_zero] at this
    obtain ⟨y, hy, hne, hb⟩ := can_false.1 (h.first _ _ hq)
    have hd := h.held.dom y hy
    refine ⟨y.tx.toNat, by omega, markV_le _ _ _ _ _ (markH_hit _ _ _ _ y hy ?_)⟩
    unfold bars
    rw [hb]; simpa using hne
  · have hj : j < x.queue.length := by omega
    have hd := h.queue.dom _ (List.getElem_mem hj)
    refine ⟨x.queue[j].tx.toNat, by omega, ?_⟩
    exact markV_hit _ _ _ _ (by rw [List.take_succ_eq_append_getElem hj]; exact List.mem_append_right _ (List.mem_singleton.2 rfl))
theorem markT_hit : ∀ (t : List LiM) (f : Tb), (∀ x ∈ t, Ok x) → ∀ x ∈ t, ∀ w ∈ x.queue, ∃ b : Nat, b < 12 ∧ markT f t w.tx.toNat b = true
  | [], f, _, x, hx, _, _ => by cases hx
  | y :: r, f, h, x, hx, w, hw => by
    rcases List.mem_cons.1 hx with rfl | hx
    · obtain ⟨k, hk, rfl⟩ := List.mem_iff_getElem.1 hw
      obtain ⟨b, hb, hm⟩ := markQ_hit (h x List.mem_cons_self) f hk
      exact ⟨b, hb, markT_le r _ _ _ (markQ_mono x f _ (by omega) _ _ hm)⟩
    · exact markT_hit r _ (fun z hz => h z (List.mem_cons_of_mem _ hz)) x hx w hw
theorem mem_edgesOf {f : Tb} {k : Nat} {e : EgM} : e ∈ edgesOf f k ↔ ∃ a b : Nat, e = ⟨a, b⟩ ∧ a < k ∧ b < 12 ∧ f a b = true := by
  unfold edgesOf edgesTo
  rw [List.mem_flatMap]
  constructor
  · rintro ⟨a, ha, hm⟩
    obtain ⟨b, hb, rfl⟩ := List.mem_map.1 hm
    obtain ⟨h1, h2⟩ := List.mem_filter.1 hb
    exact ⟨a, b, rfl, List.mem_range.1 ha, List.mem_range.1 h1, h2⟩
  · rintro ⟨a, b, rfl, ha, hb, hf⟩
    exact ⟨a, List.mem_range.2 ha, List.mem_map.2 ⟨b, List.mem_filter.2 ⟨List.mem_range.2 hb, hf⟩, rfl⟩⟩
/-- Who waits has an edge to someone. -/
theorem waits_hit {t : List LiM} (h : Good t) {x : LiM} (hx : x ∈ t) {w : LkM} (hw : w ∈ x.queue) : ∃ e ∈ waits t, e.frm = w.tx := by
  obtain ⟨b, hb, hm⟩ := markT_hit t (fun _ _ => false) h.ok x hx w hw
  have hd := (h.ok x hx).queue.dom w hw
  exact ⟨⟨(w.tx.toNat : Int), (b : Int)⟩, mem_edgesOf.2 ⟨_, b, rfl, by omega, hb, hm⟩, by show ((w.tx.toNat : Nat) : Int) = w.tx; omega⟩
end LkM
end
section
namespace LkM
/-- Who waits where for what; who holds what. -/
def WaitAt (t : List LiM) (j i m : Int) : Prop := ∃ x ∈ t, x.item = i ∧ (⟨j, m⟩ : LkM) ∈ x.queue
def Holds (t : List LiM) (j i m : Int) : Prop := ∃ x ∈ t, x.item = i ∧ ∃ a ∈ x.held, a.tx = j ∧ (a.mode = 5 ∨ a.mode = m)
def Two (l : List LkM) : Prop := ∀ a ∈ l, a.mode = 3 ∨ a.mode = 5
/-- Only two modes, and each waits but once. -/
structure Plain (t : List LiM) : Prop where
  held : ∀ x ∈ t, Two x.held
  queue : ∀ x ∈ t, Two x.queue
  once : ∀ j i m i' m', WaitAt t j i m → WaitAt t j i' m' → i = i' ∧ m = m'
theorem Plain.nil : Plain [] := ⟨by simp, by simp, fun j i m i' m' ⟨x, hx, _⟩ => by cases hx⟩
theorem waiting_iff {t : List LiM} {j : Int} : waiting t j = true ↔ ∃ i m, WaitAt t j i m := by
  unfold waiting
  rw [List.any_eq_true]
  constructor
  · rintro ⟨x, hx, hh⟩
    obtain ⟨a, ha, rfl⟩ := has_iff.1 hh
    exact ⟨x.item, a.mode, x, hx, rfl, ha⟩
  · rintro ⟨i, m, x, hx, _, h⟩
    exact ⟨x, hx, has_iff.2 ⟨_, h, rfl⟩⟩
theorem waiting_false {t : List LiM} {j : Int} (h : waiting t j = false) (i m : Int) : ¬ WaitAt t j i m := fun hw => by
  rw [waiting_iff.2 ⟨i, m, hw⟩] at h; cases h
theorem wish_two {held : List LkM} {a : LkM} (h : Two held) (ha : a.mode = 3 ∨ a.mode = 5) : (wish held a = 5 ∨ wish held a = a.mode) ∧ (∀ x ∈ held, x.tx = a.tx → (held.map LkM.tx).Nodup → wish held a = 5 ∨ wish held a = x.mode) ∧ (wish held a = 3 ∨ wish held a = 5) := by
  unfold wish
  cases hf : held.find? (fun h => h.tx == a.tx) with
  | none =>
    refine ⟨Or.inr rfl, fun x hx e => ?_, ha⟩
    rw [List.find?_eq_none] at hf
    exact absurd (by simpa using e) (hf x hx)
  | some y =>
    have hy := List.mem_of_find?_eq_some hf
    have hyt : y.tx = a.tx := by simpa using List.find?_some hf
    have hm := h y hy
    dsimp only
    have key : ∀ p q : Int, (p = 3 ∨ p = 5) → (q = 3 ∨ q = 5) → (LockM.joinZ p q = 5 ∨ LockM.joinZ p q = q) ∧ (LockM.joinZ p q = 5 ∨ LockM.joinZ p q = p) ∧ (LockM.joinZ p q = 3 ∨ LockM.joinZ p q = 5) := by
      rintro p q (rfl | rfl) (rfl | rfl) <;> decide
    obtain ⟨k1, k2, k3⟩ := key _ _ hm ha
    refine ⟨k1, fun x hx e hn => ?_, k3⟩
    rw [once_eq hn x hx y hy (e.trans hyt.symm)]
    exact k2
/-- Giving keeps what others hold, and what one holds oneself. -/
theorem give_two {held : List LkM} {a : LkM} (h : Two held) (ha : a.mode = 3 ∨ a.mode = 5) (hn : (held.map LkM.tx).Nodup) : Two (give held a) := fun x hx => by
  rcases (give_mem hn).1 hx with rfl | ⟨h1, _⟩
  · exact (wish_two h ha).2.2
  · exact h x h1
theorem give_hold {held : List LkM} {a : LkM} (h : Two held) (ha : a.mode = 3 ∨ a.mode = 5) (hn : (held.map LkM.tx).Nodup) {j m : Int} (hh : ∃ x ∈ held, x.tx = j ∧ (x.mode = 5 ∨ x.mode = m)) : ∃ x ∈ give held a, x.tx = j ∧ (x.mode = 5 ∨ x.mode = m) := by
  obtain ⟨x, hx, e, hm⟩ := hh
  by_cases hxa : x.tx = a.tx
  · refine ⟨⟨a.tx, wish held a⟩, (give_mem hn).2 (Or.inl rfl), hxa.symm.trans e, ?_⟩
    rcases (wish_two h ha).2.1 x hx hxa hn with h1 | h1
    · exact Or.inl h1
    · dsimp only; rw [h1]; exact hm
  · exact ⟨x, (give_mem hn).2 (Or.inr ⟨hx, hxa⟩), e, hm⟩
theorem give_own {held : List LkM} {a : LkM} (h : Two held) (ha : a.mode = 3 ∨ a.mode = 5) (hn : (held.map LkM.tx).Nodup) : ∃ x ∈ give held a, x.tx = a.tx ∧ (x.mode = 5 ∨ x.mode = a.mode) :=
  ⟨⟨a.tx, wish held a⟩, (give_mem hn).2 (Or.inl rfl), rfl, (wish_two h ha).1⟩

/-- Where an item stands, once asked for. -/
theorem askIn_mem (item : Int) (a : LkM) : ∀ (t : List LiM), (t.Pairwise fun x y => x.item < y.item) → ∀ x', x' ∈ (askIn item a t).1 ↔ (x' ∈ t ∧ x'.item ≠ item) ∨ (∃ x ∈ t, x.item = item ∧ x' = (askItem x a).1) ∨ ((∀ x ∈ t, x.item ≠ item) ∧ x' = ⟨item, [a], []⟩)
  | [], _, x' => by simp [askIn]
  | y :: r, hp, x' => by
    rw [List.pairwise_cons] at hp
    have ih := askIn_mem item a r hp.2 x'
    unfold askIn
    split
    · rename_i h1
      show x' ∈ y :: (askIn item a r).1 ↔ _
      rw [List.mem_cons, ih]
      constructor
      · rintro (rfl | ⟨h2, h3⟩ | ⟨x, h2, h3, h4⟩ | ⟨h2, h3⟩)
        · exact Or.inl ⟨List.mem_cons_self, by omega⟩
        · exact Or.inl ⟨List.mem_cons_of_mem _ h2, h3⟩
        · exact Or.inr (Or.inl ⟨x, List.mem_cons_of_mem _ h2, h3, h4⟩)
        · refine Or.inr (Or.inr ⟨fun x hx => ?_, h3⟩)
          rcases List.mem_cons.1 hx with rfl | hx
          · omega
          · exact h2 x hx
      · rintro (⟨h2, h3⟩ | ⟨x, h2, h3, h4⟩ | ⟨h2, h3⟩)
        · rcases List.mem_cons.1 h2 with rfl | h2
          · exact Or.inl rfl
          · exact Or.inr (Or.inl ⟨h2, h3⟩)
        · rcases List.mem_cons.1 h2 with rfl | h2
          · omega
          · exact Or.inr (Or.inr (Or.inl ⟨x, h2, h3, h4⟩))
        · exact Or.inr (Or.inr (Or.inr ⟨fun x hx => h2 x (List.mem_cons_of_mem _ hx), h3⟩))
    · split
      · rename_i h1 h2
        show x' ∈ (askItem y a).1 :: r ↔ _
        rw [List.mem_cons]
        constructor
        · rintro (rfl | h3)
          · exact Or.inr (Or.inl ⟨y, List.mem_cons_self, h2, rfl⟩)
          · exact Or.inl ⟨List.mem_cons_of_mem _ h3, by have := hp.1 x' h3; omega⟩
        · rintro (⟨h3, h4⟩ | ⟨x, h3, h4, h5⟩ | ⟨h3, _⟩)
          · rcases List.mem_cons.1 h3 with rfl | h3
            · exact absurd h2 h4
            · exact Or.inr h3
          · rcases List.mem_cons.1 h3 with rfl | h3
            · exact Or.inl h5
            · have := hp.1 x h3; omega
          · exact absurd h2 (h3 y List.mem_cons_self)
      · rename_i h1 h2
        show x' ∈ (⟨item, [a], []⟩ : LiM) :: y :: r ↔ _
        rw [List.mem_cons]
        have hall : ∀ x ∈ y :: r, x.item ≠ item := fun x hx => by
          rcases List.mem_cons.1 hx with rfl | hx
          · exact h2
          · have := hp.1 x hx; omega
        constructor
        · rintro (rfl | h3)
          · exact Or.inr (Or.inr ⟨hall, rfl⟩)
          · exact Or.inl ⟨h3, hall x' h3⟩
        · rintro (⟨h3, _⟩ | ⟨x, h3, h4, _⟩ | ⟨_, h4⟩)
          · exact Or.inr h3
          · exact absurd h4 (hall x h3)
          · exact Or.inl h4
theorem askIn_snd (item : Int) (a : LkM) : ∀ (t : List LiM), (t.Pairwise fun x y => x.item < y.item) → ((askIn item a t).2 = true ↔ (∀ x ∈ t, x.item = item → (askItem x a).2 = true))
  | [], _ => by simp [askIn]
  | y :: r, hp => by
    rw [List.pairwise_cons] at hp
    have ih := askIn_snd item a r hp.2
    unfold askIn
    split
    · rename_i h1
      show (askIn item a r).2 = true ↔ _
      rw [ih]
      constructor
      · intro h x hx e
        rcases List.mem_cons.1 hx with rfl | hx
        · omega
        · exact h x hx e
      · intro h x hx e; exact h x (List.mem_cons_of_mem _ hx) e
    · split
      · rename_i h1 h2
        show (askItem y a).2 = true ↔ _
        constructor
        · intro h x hx e
          rcases List.mem_cons.1 hx with rfl | hx
          · exact h
          · have := hp.1 x hx; omega
        · intro h; exact h y List.mem_cons_self h2
      · rename_i h1 h2
        refine (iff_of_true rfl ?_)
        intro x hx e
        rcases List.mem_cons.1 hx with rfl | hx
        · exact absurd e h2
        · have := hp.1 x hx; omega
theorem item_once {t : List LiM} (h : t.Pairwise fun x y => x.item < y.item) {x y : LiM} (hx : x ∈ t) (hy : y ∈ t) (e : x.item = y.item) : x = y := by
  obtain ⟨i, hi, rfl⟩ := List.mem_iff_getElem.1 hx
  obtain ⟨j, hj, rfl⟩ := List.mem_iff_getElem.1 hy
  rw [List.pairwise_iff_getElem] at h
  by_cases h1 : i < j
  · have := h i j hi hj h1; omega
  · by_cases h2 : j < i
    · have := h j i hj hi h2; omega
    · obtain rfl : i = j := by omega
      rfl
/-- Asked for and given. -/
structure AskYes (t t' : List LiM) (k item m : Int) : Prop where
  plain : Plain t'
  mine : Holds t' k item m
  hold : ∀ j i m, Holds t j i m → Holds t' j i m
  hold_inv : ∀ j i m, j ≠ k → Holds t' j i m → Holds t j i m
  wait : ∀ j i m, WaitAt t' j i m ↔ WaitAt t j i m
theorem ask_yes {t : List LiM} {item : Int} {a : LkM} (hG : Good t) (hP : Plain t) (ha : a.mode = 3 ∨ a.mode = 5) (h : (askIn item a t).2 = true) : AskYes t (askIn item a t).1 a.tx item a.mode := by
  have hm := askIn_mem item a t hG.rise
  have hs := (askIn_snd item a t hG.rise).1 h
  have hyes : ∀ x ∈ t, x.item = item → (askItem x a).1 = { x with held := give x.held a } := fun x hx e => by
    have := hs x hx e
    unfold askItem at this ⊢
    split at this
    · rename_i hc; rw [if_pos hc]
    · cases this
  have hw : ∀ j i m, WaitAt (askIn item a t).1 j i m ↔ WaitAt t j i m := fun j i m => by
    constructor
    · rintro ⟨x', hx', e, hq⟩
      rcases (hm x').1 hx' with ⟨h1, _⟩ | ⟨x, h1, h2, rfl⟩ | ⟨_, rfl⟩
      · exact ⟨x', h1, e, hq⟩
      · rw [hyes x h1 h2] at hq e
        exact ⟨x, h1, e, hq⟩
      · cases hq
    · rintro ⟨x, hx, e, hq⟩
      by_cases hi : x.item = item
      · refine ⟨(askItem x a).1, (hm _).2 (Or.inr (Or.inl ⟨x, hx, hi, rfl⟩)), ?_, ?_⟩
        · rw [askItem_item]; exact e
        · rw [hyes x hx hi]; exact hq
      · exact ⟨x, (hm _).2 (Or.inl ⟨hx, hi⟩), e, hq⟩
  refine ⟨⟨fun x' hx' => ?_, fun x' hx' => ?_, fun j i m i' m' h1 h2 => hP.once j i m i' m' ((hw _ _ _).1 h1) ((hw _ _ _).1 h2)⟩, ?_, ?_, ?_, hw⟩
  · rcases (hm x').1 hx' with ⟨h1, _⟩ | ⟨x, h1, h2, rfl⟩ | ⟨_, rfl⟩
    · exact hP.held x' h1
    · rw [hyes x h1 h2]; exact give_two (hP.held x h1) ha (hG.ok x h1).held.once
    · intro y hy; rw [List.mem_singleton.1 hy]; exact ha
  · rcases (hm x').1 hx' with ⟨h1, _⟩ | ⟨x, h1, h2, rfl⟩ | ⟨_, rfl⟩
    · exact hP.queue x' h1
    · rw [hyes x h1 h2]; exact hP.queue x h1
    · intro y hy; cases hy
  · by_cases hx : ∃ x ∈ t, x.item = item
    · obtain ⟨x, hx, e⟩ := hx
      refine ⟨(askItem x a).1, (hm _).2 (Or.inr (Or.inl ⟨x, hx, e, rfl⟩)), ?_, ?_⟩
      · rw [askItem_item]; exact e
      · rw [hyes x hx e]; exact give_own (hP.held x hx) ha (hG.ok x hx).held.once
    · exact ⟨⟨item, [a], []⟩, (hm _).2 (Or.inr (Or.inr ⟨fun x h1 h2 => hx ⟨x, h1, h2⟩, rfl⟩)), rfl, a, List.mem_singleton.2 rfl, rfl, Or.inr rfl⟩
  · rintro j i m ⟨x, hx, e, hh⟩
    by_cases hi : x.item = item
    · refine ⟨(askItem x a).1, (hm _).2 (Or.inr (Or.inl ⟨x, hx, hi, rfl⟩)), ?_, ?_⟩
      · rw [askItem_item]; exact e
      · rw [hyes x hx hi]; exact give_hold (hP.held x hx) ha (hG.ok x hx).held.once hh
    · exact ⟨x, (hm _).2 (Or.inl ⟨hx, hi⟩), e, hh⟩
  · rintro j i m hne ⟨x', hx', e, b, hb, hbt, hbm⟩
    rcases (hm x').1 hx' with ⟨h1, _⟩ | ⟨x, h1, h2, rfl⟩ | ⟨_, rfl⟩
    · exact ⟨x', h1, e, b, hb, hbt, hbm⟩
    · rw [hyes x h1 h2] at hb e
      rcases (give_mem (hG.ok x h1).held.once).1 hb with rfl | ⟨h3, _⟩
      · exact absurd hbt.symm hne
      · exact ⟨x, h1, e, b, h3, hbt, hbm⟩
    · rw [List.mem_singleton.1 hb] at hbt
      exact absurd hbt.symm hne
/-- Asked for, and to be waited for. -/
structure AskNo (t t' : List LiM) (k item m : Int) : Prop where
  plain : Plain t'
  hold : ∀ j i m, Holds t' j i m ↔ Holds t j i m
  wait : ∀ j i' m', WaitAt t' j i' m' ↔ WaitAt t j i' m' ∨ (j = k ∧ i' = item ∧ m' = m)
theorem ask_no {t : List LiM} {item : Int} {a : LkM} (hG : Good t) (hP : Plain t) (ha : a.mode = 3 ∨ a.mode = 5) (hw0 : waiting t a.tx = false) (h : (askIn item a t).2 = false) : AskNo t (askIn item a t).1 a.tx item a.mode := by
  have hm := askIn_mem item a t hG.rise
  have hex : ∃ x ∈ t, x.item = item ∧ (askItem x a).2 = false := by
    refine Classical.byContradiction fun hn => ?_
    rw [(askIn_snd item a t hG.rise).2 (fun x hx e => by
      cases hc : (askItem x a).2 with
      | true => rfl
      | false => exact absurd ⟨x, hx, e, hc⟩ hn)] at h
    cases h
  obtain ⟨x0, hx0, e0, hc0⟩ := hex
  have hno : (askItem x0 a).1 = { x0 with queue := enqueue x0 a } := by
    unfold askItem at hc0 ⊢
    split at hc0
    · cases hc0
    · rename_i hc; rw [if_neg hc]
  have hx' : ∀ x', x' ∈ (askIn item a t).1 ↔ (x' ∈ t ∧ x'.item ≠ item) ∨ x' = { x0 with queue := enqueue x0 a } := fun x' => by
    rw [hm x']
    constructor
    · rintro (h1 | ⟨x, h1, h2, h3⟩ | ⟨h1, _⟩)
      · exact Or.inl h1
      · obtain rfl := item_once hG.rise h1 hx0 (h2.trans e0.symm)
        exact Or.inr (h3.trans hno)
      · exact absurd e0 (h1 x0 hx0)
    · rintro (h1 | h1)
      · exact Or.inl h1
      · exact Or.inr (Or.inl ⟨x0, hx0, e0, h1.trans hno.symm⟩)
  have hq : ∀ b, b ∈ enqueue x0 a ↔ b = a ∨ b ∈ x0.queue := fun b => by rw [(enqueue_perm x0 a).mem_iff, List.mem_cons]
  have hw : ∀ j i' m', WaitAt (askIn item a t).1 j i' m' ↔ WaitAt t j i' m' ∨ (j = a.tx ∧ i' = item ∧ m' = a.mode) := fun j i' m' => by
    constructor
    · rintro ⟨x', h1, e, h2⟩
      rcases (hx' x').1 h1 with ⟨h3, _⟩ | rfl
      · exact Or.inl ⟨x', h3, e, h2⟩
      · rcases (hq _).1 h2 with h3 | h3
        · right
          rw [← h3]; exact ⟨rfl, e.symm.trans e0, rfl⟩
        · exact Or.inl ⟨x0, hx0, e, h3⟩
    · rintro (⟨x, h1, e, h2⟩ | ⟨rfl, rfl, rfl⟩)
      · by_cases hi : x.item = item
        · obtain rfl := item_once hG.rise h1 hx0 (hi.trans e0.symm)
          exact ⟨_, (hx' _).2 (Or.inr rfl), e, (hq _).2 (Or.inr h2)⟩
        · exact ⟨x, (hx' _).2 (Or.inl ⟨h1, hi⟩), e, h2⟩
      · exact ⟨_, (hx' _).2 (Or.inr rfl), e0, (hq _).2 (Or.inl rfl)⟩
  refine ⟨⟨fun x' h1 => ?_, fun x' h1 => ?_, fun j i m i' m' h1 h2 => ?_⟩, fun j i m => ?_, hw⟩
  · rcases (hx' x').1 h1 with ⟨h2, _⟩ | rfl
    · exact hP.held x' h2
    · exact hP.held x0 hx0
  · rcases (hx' x').1 h1 with ⟨h2, _⟩ | rfl
    · exact hP.queue x' h2
    · intro b hb
      rcases (hq b).1 hb with rfl | hb
      · exact ha
      · exact hP.queue x0 hx0 b hb
  · rcases (hw _ _ _).1 h1 with h3 | ⟨rfl, rfl, rfl⟩
    · rcases (hw _ _ _).1 h2 with h4 | ⟨rfl, rfl, rfl⟩
      · exact hP.once _ _ _ _ _ h3 h4
      · exact absurd h3 (waiting_false hw0 _ _)
    · rcases (hw _ _ _).1 h2 with h4 | ⟨_, rfl, rfl⟩
      · exact absurd h4 (waiting_false hw0 _ _)
      · exact ⟨rfl, rfl⟩
  · constructor
    · rintro ⟨x', h1, e, h2⟩
      rcases (hx' x').1 h1 with ⟨h3, _⟩ | rfl
      · exact ⟨x', h3, e, h2⟩
      · exact ⟨x0, hx0, e, h2⟩
    · rintro ⟨x, h1, e, h2⟩
      by_cases hi : x.item = item
      · obtain rfl := item_once hG.rise h1 hx0 (hi.trans e0.symm)
        exact ⟨_, (hx' _).2 (Or.inr rfl), e, h2⟩
      · exact ⟨x, (hx' _).2 (Or.inl ⟨h1, hi⟩), e, h2⟩
end LkM

namespace LkM
/-- How a queue is served, in one sentence. -/
structure Served (held queue : List LkM) (gs rest held' : List LkM) : Prop where
  cut : queue = gs ++ rest
  okl : Okl held'
  two : Two held'
  other : ∀ h : LkM, h.tx ∉ gs.map LkM.tx → (h ∈ held' ↔ h ∈ held)
  given : ∀ a ∈ gs, ∃ x ∈ held', x.tx = a.tx ∧ (x.mode = 5 ∨ x.mode = a.mode)
  keep : ∀ j m, (∃ x ∈ held, x.tx = j ∧ (x.mode = 5 ∨ x.mode = m)) → ∃ x ∈ held', x.tx = j ∧ (x.mode = 5 ∨ x.mode = m)
theorem served : ∀ (f : Nat) (held queue : List LkM) (g : List Int), queue.length ≤ f → Okl held → Okl queue → Two held → Two queue →
    ∃ gs, Served held queue gs (serve f held queue g).2.1 (serve f held queue g).1 ∧ (serve f held queue g).2.2 = g ++ gs.map LkM.tx
  | 0, held, queue, g, hl, h1, _, h3, _ => by
    obtain rfl : queue = [] := List.eq_nil_of_length_eq_zero (by omega)
    exact ⟨[], ⟨rfl, h1, h3, fun _ _ => Iff.rfl, by simp, fun _ _ h => h⟩, by simp [serve]⟩
  | f + 1, held, [], g, _, h1, _, h3, _ => ⟨[], ⟨rfl, h1, h3, fun _ _ => Iff.rfl, by simp, fun _ _ h => h⟩, by simp [serve]⟩
  | f + 1, held, a :: r, g, hl, h1, h2, h3, h4 => by
    have hu : serve (f + 1) held (a :: r) g = if can held a = true then serve f (give held a) r (g ++ [a.tx]) else (held, a :: r, g) := rfl
    rw [hu]
    split
    · have ha := h2.dom a List.mem_cons_self
      have ham := h4 a List.mem_cons_self
      obtain ⟨gs, hS, hg⟩ := served f (give held a) r (g ++ [a.tx]) (by simpa using hl) (give_okl h1 ha) (h2.sub (List.sublist_cons_self _ _)) (give_two h3 ham h1.once) (fun x hx => h4 x (List.mem_cons_of_mem _ hx))
      refine ⟨a :: gs, ⟨by rw [List.cons_append, ← hS.cut], hS.okl, hS.two, fun h hn => ?_, fun b hb => ?_, fun j m hh => hS.keep j m (give_hold h3 ham h1.once hh)⟩, ?_⟩
      · simp only [List.map_cons, List.mem_cons, not_or] at hn
        rw [hS.other h hn.2, give_mem h1.once]
        constructor
        · rintro (rfl | ⟨h5, _⟩)
          · exact absurd rfl hn.1
          · exact h5
        · intro h5; exact Or.inr ⟨h5, hn.1⟩
      · rcases List.mem_cons.1 hb with rfl | hb
        · exact hS.keep _ _ (give_own h3 ham h1.once)
        · exact hS.given b hb
      · rw [hg]; simp
    · exact ⟨[], ⟨rfl, h1, h3, fun _ _ => Iff.rfl, by simp, fun _ _ h => h⟩, by simp⟩
theorem without_hold {l : List LkM} {tx j m : Int} (hne : j ≠ tx) (h : ∃ x ∈ l, x.tx = j ∧ (x.mode = 5 ∨ x.mode = m)) : ∃ x ∈ without l tx, x.tx = j ∧ (x.mode = 5 ∨ x.mode = m) := by
  obtain ⟨x, hx, e, hm⟩ := h
  exact ⟨x, without_mem.2 ⟨hx, by rw [e]; exact hne⟩, e, hm⟩
theorem without_okl' {l : List LkM} (h : Okl l) (tx : Int) : Okl (without l tx) := h.sub List.filter_sublist
/-- One item behind a drop. -/
theorem item_served {x : LiM} (h : Ok x) (h3 : Two x.held) (h4 : Two x.queue) (tx : Int) (g : List Int) :
    ∃ gs, Served (without x.held tx) (without x.queue tx) gs (dropItem x tx g).1.queue (dropItem x tx g).1.held ∧ (dropItem x tx g).2 = g ++ gs.map LkM.tx ∧ (dropItem x tx g).1.item = x.item := by
  obtain ⟨gs, h5, h6⟩ := served _ (without x.held tx) (without x.queue tx) g (Nat.le_refl _) (without_okl' h.held tx) (without_okl' h.queue tx) (fun y hy => h3 y (without_mem.1 hy).1) (fun y hy => h4 y (without_mem.1 hy).1)
  exact ⟨gs, h5, h6, rfl⟩
/-- Which items stand behind a drop, and who is given something. -/
structure DropR (tx : Int) (t t' : List LiM) (g : List Int) : Prop where
  from_ : ∀ x' ∈ t', ∃ x ∈ t, ∃ gs, x'.item = x.item ∧ Served (without x.held tx) (without x.queue tx) gs x'.queue x'.held ∧ ∀ a ∈ gs, a.tx ∈ g
  to_ : ∀ x ∈ t, ∃ x' gs, x'.item = x.item ∧ Served (without x.held tx) (without x.queue tx) gs x'.queue x'.held ∧ (∀ a ∈ gs, a.tx ∈ g) ∧ (x'.held ≠ [] → x' ∈ t') ∧ (x'.held = [] → x'.queue = [])
  given : ∀ k ∈ g, ∃ x ∈ t, ∃ x' ∈ t', ∃ gs, x'.item = x.item ∧ Served (without x.held tx) (without x.queue tx) gs x'.queue x'.held ∧ ∃ a ∈ gs, a.tx = k
  nod : g.Nodup
theorem dropGo_r (tx : Int) : ∀ (r out : List LiM) (g : List Int), (∀ x ∈ r, Ok x ∧ Two x.held ∧ Two x.queue) → r.Pairwise (fun x y => ∀ a ∈ x.queue, ∀ b ∈ y.queue, a.tx ≠ b.tx) →
    ∃ out2 g2, dropGo tx r out g = (out ++ out2, g ++ g2) ∧ DropR tx r out2 g2
  | [], out, g, _, _ => ⟨[], [], by simp [dropGo], ⟨by simp, by simp, by simp, by simp⟩⟩
  | x :: r, out, g, h, hpw => by
    rw [List.pairwise_cons] at hpw
    obtain ⟨hx1, hx2, hx3⟩ := h x List.mem_cons_self
    obtain ⟨gs, hS, hg, hi⟩ := item_served hx1 hx2 hx3 tx g
    have hok := (dropItem_ok hx1 tx g).1
    obtain ⟨s, hs⟩ : ∃ s, dropItem x tx g = s := ⟨_, rfl⟩
    rw [hs] at hS hg hi hok
    have hnil : s.1.held = [] → s.1.queue = [] := fun e => by
      cases hq : s.1.queue with
      | nil => rfl
      | cons a q =>
        have := hok.first a q hq
        rw [e] at this
        simp [can] at this
    unfold dropGo
    rw [hs]
    obtain ⟨out2, g2, hE, hR⟩ := dropGo_r tx r (if s.1.held = [] then out else out ++ [s.1]) s.2 (fun y hy => h y (List.mem_cons_of_mem _ hy)) hpw.2
    rw [hE, hg]
    by_cases he : s.1.held = []
    · rw [if_pos he]
      have hgs : gs = [] := by
        cases gs with
        | nil => rfl
        | cons a q =>
          obtain ⟨y, hy, _⟩ := hS.given a List.mem_cons_self
          rw [he] at hy; cases hy
      subst hgs
      refine ⟨out2, g2, by simp, ⟨fun x' hx' => ?_, fun y hy => ?_, fun k hk => ?_, hR.nod⟩⟩
      · obtain ⟨y, h1, h2⟩ := hR.from_ x' hx'
        exact ⟨y, List.mem_cons_of_mem _ h1, h2⟩
      · rcases List.mem_cons.1 hy with rfl | hy
        · exact ⟨s.1, [], hi, hS, by simp, fun h => absurd he h, hnil⟩
        · exact hR.to_ y hy
      · obtain ⟨y, h1, h2⟩ := hR.given k hk
        exact ⟨y, List.mem_cons_of_mem _ h1, h2⟩
    · rw [if_neg he]
      have hgq : ∀ a ∈ gs, a ∈ x.queue := fun a ha => (without_mem.1 (by rw [hS.cut]; exact List.mem_append_left _ ha)).1
      have hnd : (gs.map LkM.tx ++ g2).Nodup := by
        rw [List.nodup_append]
        refine ⟨?_, hR.nod, fun a ha b hb e => ?_⟩
        · have := (without_okl' hx1.queue tx).once
          rw [hS.cut, List.map_append, List.nodup_append] at this
          exact this.1
        · obtain ⟨a', ha', rfl⟩ := List.mem_map.1 ha
          obtain ⟨y, hy, y', _, gs', _, hS', b', hb', rfl⟩ := hR.given b hb
          have hbq : b' ∈ y.queue := (without_mem.1 (by rw [hS'.cut]; exact List.mem_append_left _ hb')).1
          exact hpw.1 y hy a' (hgq a' ha') b' hbq e
      refine ⟨s.1 :: out2, gs.map LkM.tx ++ g2, by simp, ⟨fun x' hx' => ?_, fun y hy => ?_, fun k hk => ?_, hnd⟩⟩
      · rcases List.mem_cons.1 hx' with rfl | hx'
        · exact ⟨x, List.mem_cons_self, gs, hi, hS, fun a ha => List.mem_append_left _ (List.mem_map.2 ⟨a, ha, rfl⟩)⟩
        · obtain ⟨y, h1, gs', h2, h3, h4⟩ := hR.from_ x' hx'
          exact ⟨y, List.mem_cons_of_mem _ h1, gs', h2, h3, fun a ha => List.mem_append_right _ (h4 a ha)⟩
      · rcases List.mem_cons.1 hy with rfl | hy
        · exact ⟨s.1, gs, hi, hS, fun a ha => List.mem_append_left _ (List.mem_map.2 ⟨a, ha, rfl⟩), fun _ => List.mem_cons_self, hnil⟩
        · obtain ⟨x', gs', h1, h2, h3, h4, h5⟩ := hR.to_ y hy
          exact ⟨x', gs', h1, h2, fun a ha => List.mem_append_right _ (h3 a ha), fun h => List.mem_cons_of_mem _ (h4 h), h5⟩
      · rcases List.mem_append.1 hk with hk | hk
        · obtain ⟨a, ha, rfl⟩ := List.mem_map.1 hk
          exact ⟨x, List.mem_cons_self, s.1, List.mem_cons_self, gs, hi, hS, a, ha, rfl⟩
        · obtain ⟨y, h1, x', h2, h3⟩ := hR.given k hk
          exact ⟨y, List.mem_cons_of_mem _ h1, x', List.mem_cons_of_mem _ h2, h3⟩
theorem drop_r {t : List LiM} (hG : Good t) (hP : Plain t) (tx : Int) : DropR tx t (drop t tx).1 (drop t tx).2 := by
  obtain ⟨o, g, h1, h2⟩ := dropGo_r tx t [] [] (fun x hx => ⟨hG.ok x hx, hP.held x hx, hP.queue x hx⟩) (List.Pairwise.imp_of_mem (fun {x y} hx hy hlt a ha b hb e => by
    have h1 : WaitAt t a.tx x.item a.mode := ⟨x, hx, rfl, ha⟩
    have h2 : WaitAt t a.tx y.item b.mode := ⟨y, hy, rfl, by rw [e]; exact hb⟩
    have := (hP.once _ _ _ _ _ h1 h2).1
    omega) hG.rise)
  unfold drop
  rw [h1]
  simpa using h2
/-- Behind a drop. -/
structure Dropped (t t' : List LiM) (k : Int) (g : List Int) : Prop where
  plain : Plain t'
  gone : ¬ named t' k
  hold : ∀ j i m, j ≠ k → Holds t j i m → Holds t' j i m
  wait : ∀ j i m, WaitAt t' j i m → WaitAt t j i m
  waits : ∀ j i m, j ≠ k → WaitAt t j i m → WaitAt t' j i m ∨ (j ∈ g ∧ Holds t' j i m)
  given : ∀ j ∈ g, j ≠ k ∧ waiting t' j = false ∧ ∃ i m, WaitAt t j i m ∧ Holds t' j i m
  names : ∀ j, named t' j → named t j
  back : ∀ j i m, Holds t' j i m → named t j
  nod : g.Nodup
theorem mem_tx_once {l : List LkM} (h : (l.map LkM.tx).Nodup) {gs rest : List LkM} (e : l = gs ++ rest) {b : LkM} (hb : b ∈ rest) : b.tx ∉ gs.map LkM.tx := by
  subst e
  rw [List.map_append, List.nodup_append] at h
  intro hm
  exact h.2.2 _ hm _ (List.mem_map.2 ⟨b, hb, rfl⟩) rfl
theorem drop_is {t : List LiM} (hG : Good t) (hP : Plain t) (k : Int) : Dropped t (drop t k).1 k (drop t k).2 := by
  have hR := drop_r hG hP k
  obtain ⟨g1, g2, g3, g4⟩ := drop_ok hG k
  generalize (drop t k).1 = t' at *
  generalize (drop t k).2 = g at *
  have hw : ∀ j i m, WaitAt t' j i m → WaitAt t j i m := fun j i m ⟨x', hx', e, hq⟩ => by
    obtain ⟨x, hx, gs, hi, hS, _⟩ := hR.from_ x' hx'
    refine ⟨x, hx, hi.symm.trans e, ?_⟩
    have : (⟨j, m⟩ : LkM) ∈ without x.queue k := by rw [hS.cut]; exact List.mem_append_right _ hq
    exact (without_mem.1 this).1
  refine ⟨⟨fun x' hx' => ?_, fun x' hx' => ?_, fun j i m i' m' h1 h2 => hP.once j i m i' m' (hw _ _ _ h1) (hw _ _ _ h2)⟩, ?_, ?_, hw, ?_, ?_, g4, ?_, hR.nod⟩
  · obtain ⟨x, _, gs, _, hS, _⟩ := hR.from_ x' hx'
    exact hS.two
  · obtain ⟨x, hx, gs, _, hS, _⟩ := hR.from_ x' hx'
    intro b hb
    have : b ∈ without x.queue k := by rw [hS.cut]; exact List.mem_append_right _ hb
    exact hP.queue x hx b (without_mem.1 this).1
  · rintro ⟨x, hx, y, hy, e⟩
    exact g2 x hx y hy e
  · rintro j i m hne ⟨x, hx, e, hh⟩
    obtain ⟨x', gs, hi, hS, _, hin, _⟩ := hR.to_ x hx
    obtain ⟨b, hb, hb2⟩ := hS.keep j m (without_hold hne hh)
    exact ⟨x', hin (by rintro h; rw [h] at hb; cases hb), hi.trans e, b, hb, hb2⟩
  · rintro j i m hne ⟨x, hx, e, hq⟩
    obtain ⟨x', gs, hi, hS, hgs, hin, hnil⟩ := hR.to_ x hx
    have : (⟨j, m⟩ : LkM) ∈ without x.queue k := without_mem.2 ⟨hq, hne⟩
    rw [hS.cut] at this
    rcases List.mem_append.1 this with h1 | h1
    · right
      obtain ⟨b, hb, hb2⟩ := hS.given _ h1
      exact ⟨hgs _ h1, x', hin (by rintro h; rw [h] at hb; cases hb), hi.trans e, b, hb, hb2⟩
    · left
      exact ⟨x', hin (fun h => by rw [hnil h] at h1; cases h1), hi.trans e, h1⟩
  · intro j hj
    obtain ⟨x, hx, x', hx', gs, hi, hS, a, ha, rfl⟩ := hR.given j hj
    have haq : a ∈ without x.queue k := by rw [hS.cut]; exact List.mem_append_left _ ha
    obtain ⟨h1, h2⟩ := without_mem.1 haq
    have hwa : WaitAt t a.tx x.item a.mode := ⟨x, hx, rfl, h1⟩
    refine ⟨h2, ?_, x.item, a.mode, hwa, x', hx', hi, ?_⟩
    · cases hc : waiting t' a.tx with
      | false => rfl
      | true =>
        exfalso
        obtain ⟨i, m, y', hy', e', hq'⟩ := waiting_iff.1 hc
        obtain ⟨e1, e2⟩ := hP.once _ _ _ _ _ (hw _ _ _ ⟨y', hy', e', hq'⟩) hwa
        have hxy := item_once g1.rise hy' hx' (by rw [e', e1, hi])
        subst hxy
        have hn : ((without x.queue k).map LkM.tx).Nodup := (without_okl' (hG.ok x hx).queue k).once
        exact mem_tx_once hn hS.cut hq' (List.mem_map.2 ⟨a, ha, rfl⟩)
    · obtain ⟨b, hb, hb2⟩ := hS.given a ha
      exact ⟨b, hb, hb2⟩
  · rintro j i m ⟨x', hx', _, b, hb, hbt, _⟩
    exact g4 j ⟨x', hx', b, List.mem_append_left _ hb, hbt⟩
/-- What goes together. -/
theorem hold_alone {t : List LiM} (hG : Good t) (hP : Plain t) {j k i m : Int} (h5 : Holds t j i 5) (h : Holds t k i m) : j = k := by
  obtain ⟨x, hx, e, a, ha, hat, ham⟩ := h5
  obtain ⟨y, hy, e', b, hb, hbt, _⟩ := h
  obtain rfl := item_once hG.rise hx hy (e.trans e'.symm)
  refine Classical.byContradiction fun hne => ?_
  have hf := (fits_iff (hG.ok x hx).held).1 (hG.ok x hx).fit a ha b hb (by rw [hat, hbt]; exact hne)
  have ha5 : a.mode = 5 := by omega
  rw [ha5] at hf
  rcases hP.held x hx b hb with h3 | h3 <;> rw [h3] at hf <;> revert hf <;> decide
end LkM
end
section
theorem TwoM.clash_what {a b : OpM} (h : RunM.clash a b = true) : a.tx ≠ b.tx ∧ a.kind < 3 ∧ b.kind < 3 ∧ a.item = b.item ∧ (a.kind = 2 ∨ b.kind = 2) := by
  unfold RunM.clash at h
  simp only [Bool.and_eq_true, Bool.not_eq_true', beq_eq_false_iff_ne, decide_eq_true_eq, beq_iff_eq, Bool.or_eq_true] at h
  obtain ⟨⟨⟨⟨h1, h2⟩, h3⟩, h4⟩, h5⟩ := h
  exact ⟨h1, h2, h3, h4, h5⟩
namespace TwoM
open LkM
/-- A table of two at work. -/
structure S where
  locks : List LiM
  late : Nat → List OpM
  dead : Nat → Bool
  out : List OpM
def mode (o : OpM) : Int := if o.kind = 2 then 5 else 3
theorem mode_two (o : OpM) : mode o = 3 ∨ mode o = 5 := by unfold mode; split <;> simp
def ended (l : List OpM) (t : Nat) : Bool := l.any fun o => (o.tx == (t : Int)) && decide (3 ≤ o.kind)
theorem ended_iff {l : List OpM} {t : Nat} : ended l t = true ↔ ∃ o ∈ l, o.tx = t ∧ 3 ≤ o.kind := by
  unfold ended; rw [List.any_eq_true]; simp
theorem ended_snoc {l : List OpM} {o : OpM} {t : Nat} : ended (l ++ [o]) t = (ended l t || ((o.tx == (t : Int)) && decide (3 ≤ o.kind))) := by
  unfold ended; rw [List.any_append]; simp
theorem of_snoc (l : List OpM) (o : OpM) (t : Nat) : RunM.of (l ++ [o]) t = RunM.of l t ++ if o.tx = (t : Int) then [o] else [] := by
  unfold RunM.of
  rw [List.filter_append]
  congr 1
  by_cases h : o.tx = (t : Int) <;> simp [h]
theorem mem_of {l : List OpM} {t : Nat} {o : OpM} : o ∈ RunM.of l t ↔ o ∈ l ∧ o.tx = t := by unfold RunM.of; rw [List.mem_filter]; simp
/-- Of two that clash the first one's transaction was over as the second came. -/
def Rig (l : List OpM) : Prop := ∀ pre o post, l = pre ++ o :: post → ∀ a ∈ pre, RunM.clash a o = true → ∃ e ∈ pre, e.tx = a.tx ∧ 3 ≤ e.kind
theorem Rig.nil : Rig [] := fun pre o post h => by
  have := congrArg List.length h; simp at this
theorem Rig.snoc {l : List OpM} {o : OpM} (h : Rig l) (h2 : ∀ a ∈ l, RunM.clash a o = true → ∃ e ∈ l, e.tx = a.tx ∧ 3 ≤ e.kind) : Rig (l ++ [o]) := by
  intro pre o' post e a ha hc
  rcases List.eq_nil_or_concat post with rfl | ⟨p2, z, rfl⟩
  · have h3 := List.append_inj' (t₁ := [o]) (t₂ := [o']) e rfl
    obtain ⟨rfl, h4⟩ := h3
    injection h4 with h4
    subst h4
    exact h2 a ha hc
  · have e : l ++ [o] = (pre ++ o' :: p2) ++ [z] := by rw [e]; simp
    have h3 := List.append_inj' (t₁ := [o]) (t₂ := [z]) e rfl
    exact h pre o' p2 h3.1 a ha hc
/-- What is known of a table at work: G are those that were given what they waited for and are still to wake; p what is still to be taken; h all that was wished. -/
structure Inv (s : S) (G : List Int) (p h : Nat → List OpM) : Prop where
  good : LkM.Good s.locks
  plain : LkM.Plain s.locks
  ops : ∀ j, ∀ o ∈ h j, o.tx = (j : Int) ∧ RunM.bad o = 0
  last : ∀ j, (h j).Pairwise fun x _ => x.kind < 3
  wait : ∀ (j : Nat) i m, WaitAt s.locks j i m → ∃ o r, s.late j = o :: r ∧ o.item = i ∧ mode o = m ∧ o.kind < 3
  given : ∀ k ∈ G, LkM.waiting s.locks k = false ∧ ∃ j : Nat, k = j ∧ ∃ o r, s.late j = o :: r ∧ o.kind < 3 ∧ Holds s.locks j o.item (mode o)
  gnod : G.Nodup
  late : ∀ j : Nat, s.late j ≠ [] → (j : Int) ∈ G ∨ LkM.waiting s.locks j = true
  alive : ∀ j, s.dead j = false → RunM.of s.out j ++ s.late j ++ p j = h j
  died : ∀ j, s.dead j = true → s.late j = [] ∧ ∃ pre r, RunM.of s.out j = pre ++ [⟨j, 4, 0⟩] ∧ h j = pre ++ r ∧ r ≠ []
  outs : ∀ o ∈ s.out, ∃ j : Nat, o.tx = j
  locked : ∀ j : Nat, ended s.out j = false → ∀ o ∈ s.out, o.tx = j → Holds s.locks j o.item (mode o)
  gone : ∀ j : Nat, ended s.out j = true → ¬ named s.locks j
  rig : Rig s.out
  begun : ∀ j : Nat, named s.locks j → (∃ o ∈ s.out, o.tx = j) ∨ s.late j ≠ []
section
variable {s : S} {G : List Int} {p h : Nat → List OpM}
theorem holds_named {t : List LiM} {j i m : Int} (hh : Holds t j i m) : named t j := by
  obtain ⟨x, hx, _, a, ha, e, _⟩ := hh
  exact ⟨x, hx, a, List.mem_append_left _ ha, e⟩
theorem wait_named {t : List LiM} {j i m : Int} (hh : WaitAt t j i m) : named t j := by
  obtain ⟨x, hx, _, ha⟩ := hh
  exact ⟨x, hx, _, List.mem_append_right _ ha, rfl⟩
theorem named_split {t : List LiM} (hP : LkM.Plain t) {j : Int} (hn : named t j) : (∃ i m, WaitAt t j i m) ∨ ∃ i, Holds t j i 3 := by
  obtain ⟨x, hx, a, ha, e⟩ := hn
  rcases List.mem_append.1 ha with h1 | h1
  · right
    exact ⟨x.item, x, hx, rfl, a, h1, e, (hP.held x hx a h1).symm⟩
  · left
    subst e
    exact ⟨x.item, a.mode, x, hx, rfl, h1⟩
/-- Who has an end has nothing late. -/
theorem Inv.over (H : Inv s G p h) {j : Nat} (he : ended s.out j = true) : s.late j = [] := by
  refine Classical.byContradiction fun hl => H.gone j he ?_
  rcases H.late j hl with h1 | h1
  · obtain ⟨_, j', e, o, r, _, _, h2⟩ := H.given _ h1
    have : j' = j := by omega
    subst this
    exact holds_named h2
  · obtain ⟨i, m, h2⟩ := waiting_iff.1 h1
    exact wait_named h2
/-- Who has something late has not ended, and is alive. -/
theorem Inv.open_ (H : Inv s G p h) {j : Nat} (hl : s.late j ≠ []) : ended s.out j = false ∧ s.dead j = false := by
  constructor
  · cases he : ended s.out j with
    | false => rfl
    | true => exact absurd (H.over he) hl
  · cases hd : s.dead j with
    | false => rfl
    | true => exact absurd (H.died j hd).1 hl
theorem mem_dead (H : Inv s G p h) {j : Nat} (hd : s.dead j = true) : ended s.out j = true := by
  obtain ⟨_, pre, r, e, _⟩ := H.died j hd
  have : (⟨j, 4, 0⟩ : OpM) ∈ RunM.of s.out j := by rw [e]; simp
  exact ended_iff.2 ⟨_, (mem_of.1 this).1, rfl, by show (3 : Int) ≤ 4; decide⟩
/-- An operation that holds what it needs may be done. -/
theorem Inv.rig_out (H : Inv s G p h) {t' : List LiM} (hG : LkM.Good t') (hP : LkM.Plain t') {o : OpM} {j : Nat} (hj : o.tx = j) (hh : Holds t' j o.item (mode o)) (hmono : ∀ (q : Nat) i m, q ≠ j → Holds s.locks q i m → Holds t' q i m) : Rig (s.out ++ [o]) := by
  refine H.rig.snoc fun a ha hc => ?_
  obtain ⟨c1, c2, c3, c4, c5⟩ := clash_what hc
  obtain ⟨q, hq⟩ := H.outs a ha
  cases he : ended s.out q with
  | true =>
    obtain ⟨e, h1, h2, h3⟩ := ended_iff.1 he
    exact ⟨e, h1, h2.trans hq.symm, h3⟩
  | false =>
    exfalso
    have hne : q ≠ j := fun e => c1 (by rw [hq, hj, e])
    have h1 := hmono q _ _ hne (H.locked q he a ha hq)
    rw [← c4] at hh
    rcases c5 with h5 | h5
    · have : mode a = 5 := by unfold mode; rw [if_pos h5]
      rw [this] at h1
      have := hold_alone hG hP h1 hh
      omega
    · have : mode o = 5 := by unfold mode; rw [if_pos h5]
      rw [this] at hh
      have := hold_alone hG hP hh h1
      omega
end
end TwoM
namespace TwoM
open LkM
section
variable {s : S} {G : List Int} {p h : Nat → List OpM}
theorem Inv.fresh (H : Inv s G p h) {j : Nat} (hd : s.dead j = false) (hl : s.late j ++ p j ≠ []) : ended s.out j = false := by
  cases he : ended s.out j with
  | false => rfl
  | true =>
    exfalso
    obtain ⟨e, h1, h2, h3⟩ := ended_iff.1 he
    have h4 := H.last j
    rw [← H.alive j hd, List.append_assoc, List.pairwise_append] at h4
    obtain ⟨y, hy⟩ := List.exists_mem_of_ne_nil _ hl
    have := h4.2.2 e (mem_of.2 ⟨h1, h2⟩) y hy
    omega
theorem Inv.wishes (H : Inv s G p h) {j : Nat} (hd : s.dead j = false) {o : OpM} (ho : o ∈ s.late j ++ p j) : o.tx = (j : Int) ∧ RunM.bad o = 0 := H.ops j o (by
  rw [← H.alive j hd, List.append_assoc]; exact List.mem_append_right _ ho)
theorem Inv.skip {o : OpM} {j : Nat} (H : Inv s G (upd p j (o :: p j)) h) (hd : s.dead j = true) : Inv s G p h :=
  { H with alive := fun q hq => (by
      have := H.alive q hq
      have hne : q ≠ j := fun e => by rw [e, hd] at hq; cases hq
      rwa [upd_other _ _ hne] at this) }
theorem Inv.later {o : OpM} {j : Nat} (H : Inv s G (upd p j (o :: p j)) h) (hd : s.dead j = false) (hl : s.late j ≠ []) : Inv { s with late := upd s.late j (s.late j ++ [o]) } G p h := by
  have hup : ∀ q, upd s.late j (s.late j ++ [o]) q ≠ [] → s.late q ≠ [] := fun q hq => by
    by_cases e : q = j
    · subst e; exact hl
    · rwa [upd_other _ _ e] at hq
  have hhd : ∀ (q : Nat) (P : OpM → Prop), (∃ o r, s.late q = o :: r ∧ P o) → ∃ o' r, upd s.late j (s.late j ++ [o]) q = o' :: r ∧ P o' := fun q P ⟨o', r, e1, e2⟩ => by
    by_cases e : q = j
    · subst e; exact ⟨o', r ++ [o], by rw [upd_same, e1]; rfl, e2⟩
    · exact ⟨o', r, by rw [upd_other _ _ e]; exact e1, e2⟩
  refine { H with wait := fun q i m hw => hhd q _ (H.wait q i m hw), given := fun k hk => ?_, late := fun q hq => H.late q (hup q hq), alive := fun q hq => ?_, died := fun q hq => ?_, begun := fun q hn => ?_ }
  · obtain ⟨h1, q, h2, h3⟩ := H.given k hk
    exact ⟨h1, q, h2, hhd q _ h3⟩
  · have := H.alive q hq
    by_cases e : q = j
    · subst e
      rw [upd_same] at this
      show RunM.of s.out q ++ upd s.late q (s.late q ++ [o]) q ++ p q = h q
      rw [upd_same, ← this]; simp
    · rw [upd_other _ _ e] at this
      show RunM.of s.out q ++ upd s.late j (s.late j ++ [o]) q ++ p q = h q
      rw [upd_other _ _ e]; exact this
  · have hne : q ≠ j := by rintro rfl; have hq : s.dead q = true := hq; rw [hd] at hq; cases hq
    show upd s.late j (s.late j ++ [o]) q = [] ∧ _
    rw [upd_other _ _ hne]; exact H.died q hq
  · refine (H.begun q hn).imp id fun h1 => ?_
    show upd s.late j (s.late j ++ [o]) q ≠ []
    by_cases e : q = j
    · subst e; rw [upd_same]; simp
    · rw [upd_other _ _ e]; exact h1
theorem waiting_congr {t t' : List LiM} (h : ∀ j i m, WaitAt t' j i m → WaitAt t j i m) {k : Int} (hw : LkM.waiting t k = false) : LkM.waiting t' k = false := by
  cases hc : LkM.waiting t' k with
  | false => rfl
  | true =>
    obtain ⟨i, m, h1⟩ := waiting_iff.1 hc
    exact absurd (h _ _ _ h1) (waiting_false hw i m)
theorem of_other {l : List OpM} {o : OpM} {j q : Nat} (hj : o.tx = (j : Int)) (h : q ≠ j) : RunM.of (l ++ [o]) q = RunM.of l q := by
  rw [of_snoc, if_neg (by omega), List.append_nil]
theorem of_same {l : List OpM} {o : OpM} {j : Nat} (hj : o.tx = (j : Int)) : RunM.of (l ++ [o]) j = RunM.of l j ++ [o] := by
  rw [of_snoc, if_pos hj]
theorem ended_low {l : List OpM} {o : OpM} (hk : o.kind < 3) (t : Nat) : ended (l ++ [o]) t = ended l t := by
  rw [ended_snoc, decide_eq_false (by omega), Bool.and_false, Bool.or_false]
theorem ended_other {l : List OpM} {o : OpM} {j q : Nat} (hj : o.tx = (j : Int)) (h : q ≠ j) : ended (l ++ [o]) q = ended l q := by
  rw [ended_snoc, show (o.tx == (q : Int)) = false by rw [beq_eq_false_iff_ne]; omega]; simp
/-- Asked for and given. -/
theorem Inv.ok {o : OpM} {j : Nat} {t' : List LiM} (H : Inv s G (upd p j (o :: p j)) h) (hj : o.tx = j) (hd : s.dead j = false) (hl : s.late j = []) (hk : o.kind < 3) (hGd : LkM.Good t') (hA : AskYes s.locks t' j o.item (mode o)) : Inv { s with locks := t', out := s.out ++ [o] } G p h := by
  have hf := H.fresh hd (by rw [hl, upd_same]; simp)
  refine ⟨hGd, hA.plain, H.ops, H.last, fun q i m hw => H.wait q i m ((hA.wait _ _ _).1 hw), fun k hk => ?_, H.gnod, fun q hq => ?_, fun q hq => ?_, fun q hq => ?_, fun x hx => ?_, fun q he x hx hxq => ?_, fun q he hn => ?_, H.rig_out hGd hA.plain hj hA.mine (fun q i m _ hh => hA.hold _ _ _ hh), fun q hn => ?_⟩
  · obtain ⟨h1, q, h2, o', r, h3, h4, h5⟩ := H.given k hk
    exact ⟨waiting_congr (fun _ _ _ hw => (hA.wait _ _ _).1 hw) h1, q, h2, o', r, h3, h4, hA.hold _ _ _ h5⟩
  · refine (H.late q hq).imp id fun h1 => ?_
    obtain ⟨i, m, h2⟩ := waiting_iff.1 h1
    exact waiting_iff.2 ⟨i, m, (hA.wait _ _ _).2 h2⟩
  · have h1 := H.alive q hq
    show RunM.of (s.out ++ [o]) q ++ s.late q ++ p q = h q
    by_cases e : q = j
    · subst e
      rw [upd_same, hl] at h1
      rw [of_same hj, hl, ← h1]; simp
    · rw [upd_other _ _ e] at h1
      rw [of_other hj e]; exact h1
  · have hne : q ≠ j := by rintro rfl; have hq : s.dead q = true := hq; rw [hd] at hq; cases hq
    obtain ⟨h1, pre, r, h2⟩ := H.died q hq
    exact ⟨h1, pre, r, by rw [of_other hj hne]; exact h2⟩
  · rcases List.mem_append.1 hx with hx | hx
    · exact H.outs x hx
    · exact ⟨j, by rw [List.mem_singleton.1 hx, hj]⟩
  · have he : ended (s.out ++ [o]) q = false := he
    rw [ended_low hk] at he
    rcases List.mem_append.1 hx with hx | hx
    · exact hA.hold _ _ _ (H.locked q he x hx hxq)
    · rw [List.mem_singleton.1 hx] at hxq ⊢
      have : (q : Int) = j := hxq.symm.trans hj
      rw [this]; exact hA.mine
  · have he : ended (s.out ++ [o]) q = true := he
    rw [ended_low hk] at he
    have hne : q ≠ j := by rintro rfl; rw [hf] at he; cases he
    rcases named_split hA.plain hn with ⟨i, m, h1⟩ | ⟨i, h1⟩
    · exact H.gone q he (wait_named ((hA.wait _ _ _).1 h1))
    · exact H.gone q he (holds_named (hA.hold_inv _ _ _ (by omega) h1))
  · by_cases e : q = j
    · subst e
      exact Or.inl ⟨o, by simp, hj⟩
    · have hn' : named s.locks q := by
        rcases named_split hA.plain hn with ⟨i, m, h1⟩ | ⟨i, h1⟩
        · exact wait_named ((hA.wait _ _ _).1 h1)
        · exact holds_named (hA.hold_inv _ _ _ (by omega) h1)
      exact (H.begun q hn').imp (fun ⟨x, h1, h2⟩ => ⟨x, List.mem_append_left _ h1, h2⟩) id
/-- Asked for, and to be waited for. -/
theorem Inv.waits {o : OpM} {j : Nat} {t' : List LiM} (H : Inv s G (upd p j (o :: p j)) h) (hd : s.dead j = false) (hl : s.late j = []) (hk : o.kind < 3) (hGd : LkM.Good t') (hA : AskNo s.locks t' j o.item (mode o)) : Inv { s with locks := t', late := upd s.late j [o] } G p h := by
  have hf := H.fresh hd (by rw [hl, upd_same]; simp)
  have hnd : ∀ q : Nat, q ≠ j → named t' q → named s.locks q := fun q hne hn => by
    rcases named_split hA.plain hn with ⟨i, m, h1⟩ | ⟨i, h1⟩
    · rcases (hA.wait _ _ _).1 h1 with h2 | ⟨h2, _⟩
      · exact wait_named h2
      · omega
    · exact holds_named ((hA.hold _ _ _).1 h1)
  refine ⟨hGd, hA.plain, H.ops, H.last, fun q i m hw => ?_, fun k hk => ?_, H.gnod, fun q hq => ?_, fun q hq => ?_, fun q hq => ?_, H.outs, fun q he x hx hxq => (hA.hold _ _ _).2 (H.locked q he x hx hxq), fun q he hn => ?_, H.rig, fun q hn => ?_⟩
  · show ∃ o' r, upd s.late j [o] q = o' :: r ∧ _
    rcases (hA.wait _ _ _).1 hw with h1 | ⟨h1, rfl, rfl⟩
    · have hne : q ≠ j := by
        rintro rfl
        obtain ⟨o', r, h2, _⟩ := H.wait q i m h1
        rw [hl] at h2; cases h2
      rw [upd_other _ _ hne]; exact H.wait q i m h1
    · have : q = j := by omega
      subst this
      exact ⟨o, [], upd_same _ _ _, rfl, rfl, hk⟩
  · obtain ⟨h1, q, h2, o', r, h3, h4, h5⟩ := H.given k hk
    have hne : q ≠ j := by rintro rfl; rw [hl] at h3; cases h3
    refine ⟨?_, q, h2, o', r, by show upd s.late j [o] q = _; rw [upd_other _ _ hne]; exact h3, h4, (hA.hold _ _ _).2 h5⟩
    cases hc : LkM.waiting t' k with
    | false => rfl
    | true =>
      obtain ⟨i, m, h6⟩ := waiting_iff.1 hc
      rcases (hA.wait _ _ _).1 h6 with h7 | ⟨h7, _⟩
      · exact absurd h7 (waiting_false h1 i m)
      · omega
  · have hq : upd s.late j [o] q ≠ [] := hq
    by_cases e : q = j
    · subst e
      exact Or.inr (waiting_iff.2 ⟨_, _, (hA.wait _ _ _).2 (Or.inr ⟨rfl, rfl, rfl⟩)⟩)
    · rw [upd_other _ _ e] at hq
      refine (H.late q hq).imp id fun h1 => ?_
      obtain ⟨i, m, h2⟩ := waiting_iff.1 h1
      exact waiting_iff.2 ⟨i, m, (hA.wait _ _ _).2 (Or.inl h2)⟩
  · have h1 := H.alive q hq
    show RunM.of s.out q ++ upd s.late j [o] q ++ p q = h q
    by_cases e : q = j
    · subst e
      rw [upd_same, hl] at h1
      rw [upd_same, ← h1]; simp
    · rw [upd_other _ _ e] at h1 ⊢; exact h1
  · have hne : q ≠ j := by rintro rfl; have hq : s.dead q = true := hq; rw [hd] at hq; cases hq
    show upd s.late j [o] q = [] ∧ _
    rw [upd_other _ _ hne]; exact H.died q hq
  · have hne : q ≠ j := by rintro rfl; have he : ended s.out q = true := he; rw [hf] at he; cases he
    exact H.gone q he (hnd q hne hn)
  · show _ ∨ upd s.late j [o] q ≠ []
    by_cases e : q = j
    · subst e; right; rw [upd_same]; simp
    · rw [upd_other _ _ e]; exact H.begun q (hnd q e hn)
/-- Who was given what it waited for goes on. -/
theorem Inv.wake {o : OpM} {r : List OpM} {j : Nat} (H : Inv s ((j : Int) :: G) p h) (hl : s.late j = o :: r) : Inv { s with late := upd s.late j [], out := s.out ++ [o] } G (upd p j (r ++ p j)) h := by
  obtain ⟨hf, hd⟩ := H.open_ (j := j) (by rw [hl]; simp)
  obtain ⟨hw, j', hj', o', r', hl', hk, hh⟩ := H.given _ List.mem_cons_self
  have : j' = j := by omega
  subst this
  rw [hl] at hl'
  obtain ⟨rfl, rfl⟩ := List.cons.inj hl'
  obtain ⟨hot, _⟩ := H.wishes hd (o := o) (by rw [hl]; simp)
  have hng := List.nodup_cons.1 H.gnod
  refine ⟨H.good, H.plain, H.ops, H.last, fun q i m hq => ?_, fun k hk => ?_, hng.2, fun q hq => ?_, fun q hq => ?_, fun q hq => ?_, fun x hx => ?_, fun q he x hx hxq => ?_, fun q he => ?_, H.rig_out H.good H.plain hot hh (fun _ _ _ _ h1 => h1), fun q hn => ?_⟩
  · show ∃ o' r, upd s.late j' [] q = o' :: r ∧ _
    have hne : q ≠ j' := by rintro rfl; exact waiting_false hw i m hq
    rw [upd_other _ _ hne]; exact H.wait q i m hq
  · obtain ⟨h1, q, h2, h3⟩ := H.given k (List.mem_cons_of_mem _ hk)
    have hne : q ≠ j' := by rintro rfl; exact hng.1 (h2 ▸ hk)
    refine ⟨h1, q, h2, ?_⟩
    show ∃ o' r, upd s.late j' [] q = o' :: r ∧ _
    rw [upd_other _ _ hne]; exact h3
  · have hq : upd s.late j' [] q ≠ [] := hq
    by_cases e : q = j'
    · subst e; rw [upd_same] at hq; exact absurd rfl hq
    · rw [upd_other _ _ e] at hq
      rcases H.late q hq with h1 | h1
      · rcases List.mem_cons.1 h1 with h2 | h2
        · omega
        · exact Or.inl h2
      · exact Or.inr h1
  · have h1 := H.alive q hq
    show RunM.of (s.out ++ [o]) q ++ upd s.late j' [] q ++ upd p j' (r ++ p j') q = h q
    by_cases e : q = j'
    · subst e
      rw [upd_same, upd_same, of_same hot, ← h1, hl]; simp
    · rw [upd_other _ _ e, upd_other _ _ e, of_other hot e]; exact h1
  · have hne : q ≠ j' := by rintro rfl; have hq : s.dead q = true := hq; rw [hd] at hq; cases hq
    obtain ⟨h1, pre, r', h2⟩ := H.died q hq
    refine ⟨?_, pre, r', by rw [of_other hot hne]; exact h2⟩
    show upd s.late j' [] q = []
    rw [upd_other _ _ hne]; exact h1
  · rcases List.mem_append.1 hx with hx | hx
    · exact H.outs x hx
    · exact ⟨j', by rw [List.mem_singleton.1 hx, hot]⟩
  · have he : ended (s.out ++ [o]) q = false := he
    rw [ended_low hk] at he
    rcases List.mem_append.1 hx with hx | hx
    · exact H.locked q he x hx hxq
    · rw [List.mem_singleton.1 hx] at hxq ⊢
      have : (q : Int) = j' := hxq.symm.trans hot
      rw [this]; exact hh
  · have he : ended (s.out ++ [o]) q = true := he
    rw [ended_low hk] at he
    exact H.gone q he
  · by_cases e : q = j'
    · subst e
      exact Or.inl ⟨o, by simp, hot⟩
    · refine (H.begun q hn).imp (fun ⟨x, h1, h2⟩ => ⟨x, List.mem_append_left _ h1, h2⟩) fun h1 => ?_
      show upd s.late j' [] q ≠ []
      rw [upd_other _ _ e]; exact h1
theorem wait_nat (H : Inv s G p h) {k i m : Int} (hw : WaitAt s.locks k i m) : ∃ j : Nat, k = j ∧ j < 12 := by
  obtain ⟨x, hx, _, hq⟩ := hw
  have := (H.good.ok x hx).queue.dom _ hq
  exact ⟨k.toNat, by dsimp only at this; omega, by dsimp only at this; omega⟩
/-- All locks of j are dropped, who has put its end. -/
theorem Inv.drops {j : Nat} {t' : List LiM} {g : List Int} {late' : Nat → List OpM} {dead' : Nat → Bool} {e : OpM} (H : ∃ p0, Inv s G p0 h ∧ (∀ q, q ≠ j → p0 q = p q)) (hGd : LkM.Good t') (hD : Dropped s.locks t' j g) (het : e.tx = j) (hek : 3 ≤ e.kind) (hjG : (j : Int) ∉ G)
    (hlj : late' j = []) (hlo : ∀ q, q ≠ j → late' q = s.late q) (hdo : ∀ q, q ≠ j → dead' q = s.dead q)
    (ha : dead' j = false → RunM.of s.out j ++ [e] ++ p j = h j) (hb : dead' j = true → ∃ pre r, RunM.of s.out j ++ [e] = pre ++ [⟨j, 4, 0⟩] ∧ h j = pre ++ r ∧ r ≠ []) : Inv ⟨t', late', dead', s.out ++ [e]⟩ (g ++ G) p h := by
  obtain ⟨p0, H, hp⟩ := H
  refine ⟨hGd, hD.plain, H.ops, H.last, fun q i m hq => ?_, fun k hk => ?_, ?_, fun q hq => ?_, fun q hq => ?_, fun q hq => ?_, fun x hx => ?_, fun q he x hx hxq => ?_, fun q he hn => ?_, H.rig.snoc (fun a _ hc => by have := (clash_what hc).2.2.1; omega), fun q hn => ?_⟩
  · show ∃ o' r, late' q = o' :: r ∧ _
    have hne : q ≠ j := by rintro rfl; exact hD.gone (wait_named hq)
    rw [hlo q hne]; exact H.wait q i m (hD.wait _ _ _ hq)
  · rcases List.mem_append.1 hk with hk | hk
    · obtain ⟨h1, h2, i, m, h3, h4⟩ := hD.given k hk
      obtain ⟨q, rfl, _⟩ := wait_nat H h3
      have hne : q ≠ j := by omega
      obtain ⟨o', r, h5, h6, h7, h8⟩ := H.wait q i m h3
      refine ⟨h2, q, rfl, o', r, by show late' q = _; rw [hlo q hne]; exact h5, h8, ?_⟩
      rw [h6, h7]; exact h4
    · obtain ⟨h1, q, rfl, o', r, h3, h4, h5⟩ := H.given k hk
      have hne : q ≠ j := by rintro rfl; exact hjG hk
      exact ⟨waiting_congr hD.wait h1, q, rfl, o', r, by show late' q = _; rw [hlo q hne]; exact h3, h4, hD.hold _ _ _ (by omega) h5⟩
  · rw [List.nodup_append]
    refine ⟨hD.nod, H.gnod, fun a ha b hb e => ?_⟩
    subst e
    obtain ⟨_, _, i, m, h3, _⟩ := hD.given a ha
    exact waiting_false (H.given a hb).1 i m h3
  · have hq : late' q ≠ [] := hq
    have hne : q ≠ j := by rintro rfl; exact hq hlj
    rw [hlo q hne] at hq
    rcases H.late q hq with h1 | h1
    · exact Or.inl (List.mem_append_right _ h1)
    · obtain ⟨i, m, h2⟩ := waiting_iff.1 h1
      rcases hD.waits q i m (by omega) h2 with h3 | ⟨h3, _⟩
      · exact Or.inr (waiting_iff.2 ⟨i, m, h3⟩)
      · exact Or.inl (List.mem_append_left _ h3)
  · show RunM.of (s.out ++ [e]) q ++ late' q ++ p q = h q
    by_cases e' : q = j
    · subst e'
      rw [of_same het, hlj, List.append_nil]; exact ha hq
    · have hq : dead' q = false := hq
      rw [hdo q e'] at hq
      rw [of_other het e', hlo q e', ← hp q e']; exact H.alive q hq
  · show late' q = [] ∧ ∃ pre r, RunM.of (s.out ++ [e]) q = _ ∧ _
    by_cases e' : q = j
    · subst e'
      exact ⟨hlj, by rw [of_same het]; exact hb hq⟩
    · have hq : dead' q = true := hq
      rw [hdo q e'] at hq
      rw [of_other het e', hlo q e']; exact H.died q hq
  · rcases List.mem_append.1 hx with hx | hx
    · exact H.outs x hx
    · exact ⟨j, by rw [List.mem_singleton.1 hx, het]⟩
  · have he : ended (s.out ++ [e]) q = false := he
    have hne : q ≠ j := by
      rintro rfl
      rw [ended_snoc, decide_eq_true hek, show (e.tx == (q : Int)) = true by rw [beq_iff_eq]; exact het] at he
      simp at he
    rw [ended_other het hne] at he
    rcases List.mem_append.1 hx with hx | hx
    · exact hD.hold _ _ _ (by omega) (H.locked q he x hx hxq)
    · rw [List.mem_singleton.1 hx] at hxq; omega
  · have he : ended (s.out ++ [e]) q = true := he
    by_cases e' : q = j
    · subst e'; exact hD.gone hn
    · rw [ended_other het e'] at he
      exact H.gone q he (hD.names _ hn)
  · have hne : q ≠ j := by rintro rfl; exact hD.gone hn
    show _ ∨ late' q ≠ []
    rw [hlo q hne]
    exact (H.begun q (hD.names _ hn)).imp (fun ⟨x, h1, h2⟩ => ⟨x, List.mem_append_left _ h1, h2⟩) id
theorem Inv.ends {o : OpM} {j : Nat} (H : Inv s G (upd p j (o :: p j)) h) (hj : o.tx = j) (hd : s.dead j = false) (hl : s.late j = []) (hk : 3 ≤ o.kind) : Inv { s with locks := (drop s.locks j).1, out := s.out ++ [o] } ((drop s.locks j).2 ++ G) p h := by
  refine Inv.drops (late' := s.late) (dead' := s.dead) ⟨_, H, fun q hq => upd_other _ _ hq⟩ (drop_ok H.good j).1 (drop_is H.good H.plain j) hj hk (fun hG => ?_) hl (fun _ _ => rfl) (fun _ _ => rfl) (fun _ => ?_) (fun h1 => by rw [hd] at h1; cases h1)
  · obtain ⟨_, q, h2, o', r, h3, _⟩ := H.given _ hG
    have : q = j := by omega
    subst this
    rw [hl] at h3; cases h3
  · have := H.alive j hd
    rw [upd_same, hl] at this
    rw [← this]; simp
def kill (s : S) (j : Nat) : S := { s with dead := upd s.dead j true, late := upd s.late j [], out := s.out ++ [⟨j, 4, 0⟩] }
theorem Inv.kills {j : Nat} (H : Inv s G p h) (hw : LkM.waiting s.locks j = true) : Inv { kill s j with locks := (drop s.locks j).1 } ((drop s.locks j).2 ++ G) p h := by
  obtain ⟨i, m, hw'⟩ := waiting_iff.1 hw
  obtain ⟨o, r, hl, _⟩ := H.wait j i m hw'
  obtain ⟨_, hd⟩ := H.open_ (j := j) (by rw [hl]; simp)
  refine Inv.drops (e := ⟨j, 4, 0⟩) ⟨p, H, fun q _ => rfl⟩ (drop_ok H.good j).1 (drop_is H.good H.plain j) rfl (by show (3 : Int) ≤ 4; decide) (fun hG => ?_) (upd_same _ _ _) (fun q hq => upd_other _ _ hq) (fun q hq => upd_other _ _ hq) (fun h1 => ?_) (fun _ => ⟨RunM.of s.out j, s.late j ++ p j, rfl, ?_, ?_⟩)
  · exact waiting_false (H.given _ hG).1 i m hw'
  · have h1 : upd s.dead j true j = false := h1
    rw [upd_same] at h1; cases h1
  · rw [← H.alive j hd, List.append_assoc]
  · rw [hl]; simp
end
end TwoM
namespace TwoM
open LkM
/-- The last of the victims. -/
def Last (out : List Nat) (k : Nat) : Prop := k ∈ out ∧ ∀ j ∈ out, j ≤ k
mutual
/-- What two does with an operation. -/
inductive Take : S → OpM → S → Prop
  | dead {s : S} {o : OpM} {j : Nat} : o.tx = j → s.dead j = true → Take s o s
  | late {s : S} {o : OpM} {j : Nat} : o.tx = j → s.dead j = false → s.late j ≠ [] → Take s o { s with late := upd s.late j (s.late j ++ [o]) }
  | ends {s s' : S} {o : OpM} {j : Nat} : o.tx = j → s.dead j = false → s.late j = [] → 3 ≤ o.kind → Drops { s with out := s.out ++ [o] } j s' → Take s o s'
  | ok {s : S} {o : OpM} {j : Nat} : o.tx = j → s.dead j = false → s.late j = [] → o.kind < 3 → (askIn o.item ⟨j, mode o⟩ s.locks).2 = true → Take s o { s with locks := (askIn o.item ⟨j, mode o⟩ s.locks).1, out := s.out ++ [o] }
  | wait {s s' : S} {o : OpM} {j : Nat} : o.tx = j → s.dead j = false → s.late j = [] → o.kind < 3 → (askIn o.item ⟨j, mode o⟩ s.locks).2 = false → Free { s with locks := (askIn o.item ⟨j, mode o⟩ s.locks).1, late := upd s.late j [o] } s' → Take s o s'
/-- All that j has is dropped. -/
inductive Drops : S → Nat → S → Prop
  | mk {s s' : S} {j : Nat} : Wakes { s with locks := (drop s.locks j).1 } (drop s.locks j).2 s' → Drops s j s'
/-- Those that were given something go on. -/
inductive Wakes : S → List Int → S → Prop
  | nil {s : S} : Wakes s [] s
  | cons {s s1 s' : S} {j : Nat} {g : List Int} {o : OpM} {r : List OpM} : s.late j = o :: r → Takes { s with late := upd s.late j [], out := s.out ++ [o] } r s1 → Wakes s1 g s' → Wakes s ((j : Int) :: g) s'
/-- Operations are taken, one behind another. -/
inductive Takes : S → List OpM → S → Prop
  | nil {s : S} : Takes s [] s
  | cons {s s1 s' : S} {o : OpM} {r : List OpM} : Take s o s1 → Takes s1 r s' → Takes s (o :: r) s'
/-- One after another dies. -/
inductive Free : S → S → Prop
  | done {s : S} : VicM.Vic 12 (waits s.locks) [] → Free s s
  | step {s s1 s' : S} {out : List Nat} {k : Nat} : VicM.Vic 12 (waits s.locks) out → Last out k → Drops (kill s k) k s1 → Free s1 s' → Free s s'
end
/-- How many operations wait. -/
def lates (s : S) : Nat := ((List.range 12).map fun k => (s.late k).length).sum
theorem sum_upd {f g : Nat → Nat} {k : Nat} (h : ∀ i, i ≠ k → g i = f i) : ∀ n, k < n → ((List.range n).map g).sum + f k = ((List.range n).map f).sum + g k
  | 0, hk => by omega
  | n + 1, hk => by
    rw [List.range_succ, List.map_append, List.map_append, List.sum_append, List.sum_append]
    simp only [List.map_cons, List.map_nil, List.sum_cons, List.sum_nil]
    by_cases e : k = n
    · subst e
      have : ((List.range k).map g) = ((List.range k).map f) := List.map_congr_left fun i hi => h i (by have := List.mem_range.1 hi; omega)
      rw [this]; omega
    · have := sum_upd h n (by omega)
      rw [h n (by omega)]; omega
theorem lates_upd {s : S} {k : Nat} (hk : k < 12) (l : List OpM) (a b c) : lates ⟨a, upd s.late k l, b, c⟩ + (s.late k).length = lates s + l.length := by
  unfold lates
  have := sum_upd (f := fun i => (s.late i).length) (g := fun i => (upd s.late k l i).length) (k := k) (fun i hi => by rw [upd_other _ _ hi]) 12 hk
  simp only [upd_same] at this
  exact this
/-- Nobody waits for themselves. -/
def Acyc (t : List LiM) : Prop := ∀ k, ¬ GrM.Path 12 (waits t) k k
theorem acyc_of {t : List LiM} (h : VicM.Vic 12 (waits t) []) : Acyc t := by cases h with | done h => exact h
theorem markH_inv (w : LkM) (m : Int) : ∀ (l : List LkM) (f : Tb) (a b : Nat), markH w m f l a b = true → f a b = true ∨ (a = w.tx.toNat ∧ ∃ h ∈ l, h.tx.toNat = b ∧ bars w.tx m h = true)
  | [], f, a, b, h => Or.inl h
  | x :: r, f, a, b, h => by
    have h : markH w m (set2 f w.tx.toNat x.tx.toNat (f w.tx.toNat x.tx.toNat || bars w.tx m x)) r a b = true := h
    rcases markH_inv w m r _ a b h with h1 | ⟨h1, y, hy, h2⟩
    · unfold set2 at h1
      split at h1
      · rename_i e
        rw [Bool.or_eq_true] at h1
        rcases h1 with h1 | h1
        · rw [← e.1, ← e.2] at h1; exact Or.inl h1
        · exact Or.inr ⟨e.1, x, List.mem_cons_self, e.2.symm, h1⟩
      · exact Or.inl h1
    · exact Or.inr ⟨h1, y, List.mem_cons_of_mem _ hy, h2⟩
theorem markV_inv (w : LkM) : ∀ (l : List LkM) (f : Tb) (a b : Nat), markV w f l a b = true → f a b = true ∨ (a = w.tx.toNat ∧ ∃ h ∈ l, h.tx.toNat = b)
  | [], f, a, b, h => Or.inl h
  | x :: r, f, a, b, h => by
    have h : markV w (set2 f w.tx.toNat x.tx.toNat true) r a b = true := h
    rcases markV_inv w r _ a b h with h1 | ⟨h1, y, hy, h2⟩
    · unfold set2 at h1
      split at h1
      · rename_i e
        exact Or.inr ⟨e.1, x, List.mem_cons_self, e.2.symm⟩
      · exact Or.inl h1
    · exact Or.inr ⟨h1, y, List.mem_cons_of_mem _ hy, h2⟩
/-- a waits for b at an item. -/
def EdgeAt (x : LiM) (a b : Nat) : Prop := ∃ k, ∃ hk : k < x.queue.length, a = (x.queue[k]).tx.toNat ∧ ((∃ h ∈ x.held, h.tx.toNat = b ∧ bars (x.queue[k]).tx (wish x.held x.queue[k]) h = true) ∨ ∃ v ∈ x.queue.take k, v.tx.toNat = b)
theorem markQ_inv (x : LiM) (f : Tb) (a b : Nat) : ∀ k, k ≤ x.queue.length → markQ x f k a b = true → f a b = true ∨ EdgeAt x a b
  | 0, _, h => Or.inl h
  | k + 1, hk, h => by
    have e : markQ x f (k + 1) = markV x.queue[k] (markH x.queue[k] (wish x.held x.queue[k]) (markQ x f k) x.held) (x.queue.take k) := by
      conv => lhs; unfold markQ
      rw [List.getElem?_eq_getElem (by omega)]
    rw [e] at h
    rcases markV_inv _ _ _ _ _ h with h1 | ⟨h1, h2⟩
    · rcases markH_inv _ _ _ _ _ _ h1 with h3 | ⟨h3, h4⟩
      · exact markQ_inv x f a b k (by omega) h3
      · exact Or.inr ⟨k, by omega, h3, Or.inl h4⟩
    · exact Or.inr ⟨k, by omega, h1, Or.inr h2⟩
theorem markT_inv (a b : Nat) : ∀ (t : List LiM) (f : Tb), markT f t a b = true → f a b = true ∨ ∃ x ∈ t, EdgeAt x a b
  | [], f, h => Or.inl h
  | x :: r, f, h => by
    rcases markT_inv a b r _ h with h1 | ⟨y, hy, h1⟩
    · rcases markQ_inv x f a b _ (Nat.le_refl _) h1 with h2 | h2
      · exact Or.inl h2
      · exact Or.inr ⟨x, List.mem_cons_self, h2⟩
    · exact Or.inr ⟨y, List.mem_cons_of_mem _ hy, h1⟩
theorem markQ_edge {x : LiM} {f : Tb} {a b : Nat} (h : EdgeAt x a b) : markQ x f x.queue.length a b = true := by
  obtain ⟨k, hk, rfl, h1⟩ := h
  refine markQ_mono x f x.queue.length (show k + 1 ≤ _ by omega) _ _ ?_
  have e : markQ x f (k + 1) = markV x.queue[k] (markH x.queue[k] (wish x.held x.queue[k]) (markQ x f k) x.held) (x.queue.take k) := by
    conv => lhs; unfold markQ
    rw [List.getElem?_eq_getElem hk]
  rw [e]
  rcases h1 with ⟨y, hy, rfl, hb⟩ | ⟨v, hv, rfl⟩
  · exact markV_le _ _ _ _ _ (markH_hit _ _ _ _ y hy hb)
  · exact markV_hit _ _ _ _ hv
theorem markT_edge {a b : Nat} : ∀ {t : List LiM} {f : Tb} {x : LiM}, x ∈ t → EdgeAt x a b → markT f t a b = true
  | [], _, x, hx, _ => by cases hx
  | y :: r, f, x, hx, h => by
    rcases List.mem_cons.1 hx with rfl | hx
    · exact markT_le r _ _ _ (markQ_edge h)
    · exact markT_edge (t := r) hx h
/-- An edge: at some item a waits for b. -/
theorem edge_iff {t : List LiM} {a b : Nat} : GrM.E (waits t) a b = true ↔ a < 12 ∧ b < 12 ∧ ∃ x ∈ t, EdgeAt x a b := by
  rw [GrM.E_iff]
  unfold waits
  rw [mem_edgesOf]
  constructor
  · rintro ⟨a', b', e, h1, h2, h3⟩
    injection e with e1 e2
    obtain rfl : a = a' := by omega
    obtain rfl : b = b' := by omega
    rcases markT_inv _ _ _ _ h3 with h4 | h4
    · cases h4
    · exact ⟨h1, h2, h4⟩
  · rintro ⟨h1, h2, x, hx, h3⟩
    exact ⟨a, b, rfl, h1, h2, markT_edge hx h3⟩
theorem path_sub {l m : List EgM} (h : ∀ a b, GrM.E l a b = true → GrM.E m a b = true) {a b : Nat} (hp : GrM.Path 12 l a b) : GrM.Path 12 m a b := by
  induction hp with
  | one h1 h2 => exact .one h1 (h _ _ h2)
  | more _ h2 h3 ih => exact .more ih h2 (h _ _ h3)
/-- New edges to one that waits for none make no loop. -/
theorem path_new {l m : List EgM} {k : Nat} (h : ∀ a b, GrM.E l a b = true → GrM.E m a b = true ∨ b = k) (hk : ∀ b, GrM.E l k b = false) {a b : Nat} (hp : GrM.Path 12 l a b) : b = k ∨ GrM.Path 12 m a b := by
  induction hp with
  | one h1 h2 =>
    rcases h _ _ h2 with h3 | h3
    · exact Or.inr (.one h1 h3)
    · exact Or.inl h3
  | more _ h2 h3 ih =>
    rcases ih with e | ih
    · rw [e, hk] at h3; cases h3
    · rcases h _ _ h3 with h4 | h4
      · exact Or.inr (.more ih h2 h4)
      · exact Or.inl h4
theorem path_first {n : Nat} {l : List EgM} {a b : Nat} (h : GrM.Path n l a b) : ∃ c, GrM.E l a c = true := by
  induction h with
  | one _ h2 => exact ⟨_, h2⟩
  | more _ _ _ ih => exact ih
theorem edge_waits {t : List LiM} (hG : LkM.Good t) {a b : Nat} (h : GrM.E (waits t) a b = true) : LkM.waiting t a = true := by
  obtain ⟨_, _, x, hx, k, hk, e, _⟩ := edge_iff.1 h
  have hd := (hG.ok x hx).queue.dom _ (List.getElem_mem hk)
  refine waiting_iff.2 ⟨x.item, (x.queue[k]).mode, x, hx, rfl, ?_⟩
  have : (a : Int) = (x.queue[k]).tx := by rw [e]; exact Int.toNat_of_nonneg hd.1
  rw [this]
  exact List.getElem_mem hk
theorem vic_path {n : Nat} {l : List EgM} {out : List Nat} (h : VicM.Vic n l out) : ∀ k ∈ out, GrM.Path n l k k := by
  induction h with
  | done _ => simp
  | @step l k out h1 h2 _ ih =>
    intro j hj
    rcases List.mem_cons.1 hj with rfl | hj
    · exact h1
    · have hp := ih j hj
      have : ∀ a b, GrM.Path n (VicM.del (k : Int) l) a b → GrM.Path n l a b := fun a b hp => by
        have hs : ∀ a b, GrM.E (VicM.del (k : Int) l) a b = true → GrM.E l a b = true := fun a b he => by
          rw [GrM.E_iff] at he ⊢
          exact (List.mem_filter.1 he).1
        induction hp with
        | one h1 h2 => exact .one h1 (hs _ _ h2)
        | more _ h2 h3 ih => exact .more ih h2 (hs _ _ h3)
      exact this _ _ hp
theorem ask_edges {t : List LiM} {item : Int} {k : Nat} {m : Int} (hG : LkM.Good t) (hP : LkM.Plain t) (hGd : LkM.Good (askIn item ⟨k, m⟩ t).1) (hm : m = 3 ∨ m = 5) (h : (askIn item ⟨k, m⟩ t).2 = true) (hw : LkM.waiting t k = false) (hA : Acyc t) : Acyc (askIn item ⟨k, m⟩ t).1 := by
  have hy := ask_yes (a := ⟨k, m⟩) hG hP hm h
  have hmem := askIn_mem item ⟨(k : Int), m⟩ t hG.rise
  have hs := (askIn_snd item ⟨(k : Int), m⟩ t hG.rise).1 h
  have hyes : ∀ x ∈ t, x.item = item → (askItem x ⟨k, m⟩).1 = { x with held := give x.held ⟨k, m⟩ } := fun x hx e => by
    have := hs x hx e
    unfold askItem at this ⊢
    split at this
    · rename_i hc; rw [if_pos hc]
    · cases this
  have hk : ∀ b, GrM.E (waits (askIn item ⟨k, m⟩ t).1) k b = false := fun b => by
    cases hc : GrM.E (waits (askIn item ⟨k, m⟩ t).1) k b with
    | false => rfl
    | true =>
      obtain ⟨i, m', h1⟩ := waiting_iff.1 (edge_waits hGd hc)
      exact absurd ((hy.wait _ _ _).1 h1) (waiting_false hw i m')
  have hstep : ∀ a b, GrM.E (waits (askIn item ⟨k, m⟩ t).1) a b = true → GrM.E (waits t) a b = true ∨ b = k := fun a b he => by
    obtain ⟨h1, h2, x', hx', hE⟩ := edge_iff.1 he
    rcases (hmem x').1 hx' with ⟨h4, _⟩ | ⟨x, h4, h5, rfl⟩ | ⟨_, rfl⟩
    · exact Or.inl (edge_iff.2 ⟨h1, h2, x', h4, hE⟩)
    · rw [hyes x h4 h5] at hE
      obtain ⟨i, hi, e1, h3⟩ := hE
      have hi' : i < x.queue.length := hi
      have e1 : a = (x.queue[i]).tx.toNat := e1
      rcases h3 with ⟨y, hy1, hy2, hy3⟩ | h3
      · rcases (give_mem (hG.ok x h4).held.once).1 hy1 with rfl | ⟨hy4, hy5⟩
        · right
          simpa using hy2.symm
        · left
          refine edge_iff.2 ⟨h1, h2, x, h4, i, hi', e1, Or.inl ⟨y, hy4, hy2, ?_⟩⟩
          have hq := (hG.ok x h4).queue.dom _ (List.getElem_mem hi')
          have hne : (x.queue[i]).tx ≠ (k : Int) := fun e => waiting_false hw x.item (x.queue[i]).mode ⟨x, h4, rfl, by rw [← e]; exact List.getElem_mem hi'⟩
          have hwish : wish (give x.held ⟨(k : Int), m⟩) x.queue[i] = wish x.held x.queue[i] := by
            unfold wish
            cases hf : x.held.find? (fun h => h.tx == (x.queue[i]).tx) with
            | none =>
              have : (give x.held ⟨(k : Int), m⟩).find? (fun h => h.tx == (x.queue[i]).tx) = none := by
                rw [List.find?_eq_none] at hf ⊢
                intro z hz
                rcases (give_mem (hG.ok x h4).held.once).1 hz with rfl | ⟨h6, _⟩
                · simpa using fun e => hne e.symm
                · exact hf z h6
              rw [this]
            | some z =>
              obtain ⟨h6, h7⟩ := (find_once (hG.ok x h4).held.once).1 hf
              rw [(find_once (give_once (a := ⟨(k : Int), m⟩) (hG.ok x h4).held.once)).2 ⟨(give_mem (hG.ok x h4).held.once).2 (Or.inr ⟨h6, fun e => hne (h7.symm.trans e)⟩), h7⟩]
          have hy3 : bars (x.queue[i]).tx (wish (give x.held ⟨(k : Int), m⟩) x.queue[i]) y = true := hy3
          rw [hwish] at hy3
          exact hy3
      · exact Or.inl (edge_iff.2 ⟨h1, h2, x, h4, i, hi', e1, Or.inr h3⟩)
    · obtain ⟨i, hi, _⟩ := hE
      simp at hi
  intro c hc
  rcases path_new (m := waits t) (k := k) hstep hk hc with rfl | h1
  · obtain ⟨b, hb⟩ := path_first hc
    rw [hk] at hb; cases hb
  · exact hA c h1
theorem take_append_lt {α : Type} (gs rest : List α) (k : Nat) : ∀ v, v ∈ rest.take k → v ∈ (gs ++ rest).take (gs.length + k) := fun v hv => by
  rw [List.take_append, show gs.length + k - gs.length = k by omega]
  exact List.mem_append_right _ hv
/-- Positions in a list that has been thinned out. -/
theorem filter_at {α : Type} (p : α → Bool) : ∀ (l : List α) (k : Nat) (hk : k < (l.filter p).length), ∃ i, ∃ hi : i < l.length, l[i] = (l.filter p)[k] ∧ ∀ v ∈ (l.filter p).take k, v ∈ l.take i
  | [], k, hk => by simp at hk
  | a :: r, k, hk => by
    cases ha : p a with
    | false =>
      have e : (a :: r).filter p = r.filter p := by rw [List.filter_cons, ha]; simp
      obtain ⟨i, hi, h1, h2⟩ := filter_at p r k (by rw [e] at hk; exact hk)
      refine ⟨i + 1, by simp; omega, ?_, fun v hv => ?_⟩
      · simp only [List.getElem_cons_succ, h1]
        congr 1
        exact e.symm
      · rw [List.take_succ_cons]
        rw [e] at hv
        exact List.mem_cons_of_mem _ (h2 v hv)
    | true =>
      have e : (a :: r).filter p = a :: r.filter p := by rw [List.filter_cons, ha]; simp
      cases k with
      | zero => exact ⟨0, by simp, by simp [e], fun v hv => by simp at hv⟩
      | succ k =>
        obtain ⟨i, hi, h1, h2⟩ := filter_at p r k (by rw [e] at hk; simpa using hk)
        refine ⟨i + 1, by simp; omega, ?_, fun v hv => ?_⟩
        · simp only [List.getElem_cons_succ, h1, e]
        · rw [List.take_succ_cons]
          rw [e, List.take_succ_cons] at hv
          rcases List.mem_cons.1 hv with rfl | hv
          · exact List.mem_cons_self
          · exact List.mem_cons_of_mem _ (h2 v hv)
theorem drop_edges {t : List LiM} (hG : LkM.Good t) (hP : LkM.Plain t) (k : Int) (hA : Acyc t) : Acyc (drop t k).1 := by
  have hR := drop_r hG hP k
  obtain ⟨g1, g2, g3, g4⟩ := drop_ok hG k
  generalize (drop t k).1 = t' at *
  generalize (drop t k).2 = g at *
  refine fun c hc => hA c (path_sub (fun a b he => ?_) hc)
  obtain ⟨h1, h2, x', hx', i, hi, e1, h3⟩ := edge_iff.1 he
  obtain ⟨x, hx, gs, hit, hS, _⟩ := hR.from_ x' hx'
  have hn := (without_okl' (hG.ok x hx).queue k).once
  have hlen : gs.length + i < (without x.queue k).length := by rw [hS.cut, List.length_append]; omega
  obtain ⟨i2, hi2, e2, hpre⟩ := filter_at (fun h => h.tx != k) x.queue (gs.length + i) hlen
  have hat : (without x.queue k)[gs.length + i] = x'.queue[i] := by
    have : ∀ (l : List LkM), l = gs ++ x'.queue → ∀ hh : gs.length + i < l.length, l[gs.length + i] = x'.queue[i] := by
      rintro l rfl hh
      rw [List.getElem_append_right (by omega)]
      congr 1; omega
    exact this _ hS.cut hlen
  have ea : (x.queue[i2]) = x'.queue[i] := e2.trans hat
  have hgq : ∀ v ∈ gs, v ∈ x.queue.take i2 := fun v hv => hpre v (by
    show v ∈ (without x.queue k).take (gs.length + i)
    rw [hS.cut, List.take_append]
    exact List.mem_append_left _ (by rw [List.take_of_length_le (by omega)]; exact hv))
  refine edge_iff.2 ⟨h1, h2, x, hx, i2, hi2, by rw [ea]; exact e1, ?_⟩
  rw [ea]
  rcases h3 with ⟨y, hy1, hy2, hy3⟩ | ⟨v, hv, hv2⟩
  · by_cases hyg : y.tx ∈ gs.map LkM.tx
    · obtain ⟨v, hv, hve⟩ := List.mem_map.1 hyg
      exact Or.inr ⟨v, hgq v hv, by rw [hve]; exact hy2⟩
    · left
      have hy4 := (without_mem.1 ((hS.other y hyg).1 hy1)).1
      refine ⟨y, hy4, hy2, ?_⟩
      have hwk : (x'.queue[i]).tx ≠ k := by
        have : x'.queue[i] ∈ without x.queue k := by rw [hS.cut]; exact List.mem_append_right _ (List.getElem_mem hi)
        exact (without_mem.1 this).2
      have hng : (x'.queue[i]).tx ∉ gs.map LkM.tx := mem_tx_once hn hS.cut (List.getElem_mem hi)
      have hwish : wish x'.held x'.queue[i] = wish x.held x'.queue[i] := by
        unfold wish
        cases hf : x.held.find? (fun h => h.tx == (x'.queue[i]).tx) with
        | none =>
          have : x'.held.find? (fun h => h.tx == (x'.queue[i]).tx) = none := by
            rw [List.find?_eq_none] at hf ⊢
            intro z hz hze
            have hze : z.tx = (x'.queue[i]).tx := by simpa using hze
            exact hf z (without_mem.1 ((hS.other z (by rw [hze]; exact hng)).1 hz)).1 (by simpa using hze)
          rw [this]
        | some z =>
          obtain ⟨h6, h7⟩ := (find_once (hG.ok x hx).held.once).1 hf
          rw [(find_once hS.okl.once).2 ⟨(hS.other z (by rw [h7]; exact hng)).2 (without_mem.2 ⟨h6, by rw [h7]; exact hwk⟩), h7⟩]
      rw [← hwish]; exact hy3
  · exact Or.inr ⟨v, hpre v (by
      show v ∈ (without x.queue k).take (gs.length + i)
      rw [hS.cut]; exact take_append_lt gs x'.queue i v hv), hv2⟩
end TwoM
namespace TwoM
open LkM
theorem Inv.dom {s : S} {G : List Int} {p h : Nat → List OpM} {o : OpM} {j : Nat} (H : Inv s G (upd p j (o :: p j)) h) (hd : s.dead j = false) : o.tx = (j : Int) ∧ RunM.bad o = 0 :=
  H.wishes hd (by rw [upd_same]; simp)
theorem askDom {o : OpM} {j : Nat} (ht : o.tx = j) (h : RunM.bad o = 0) : Dom (⟨j, mode o⟩ : LkM) ∧ 0 ≤ o.item ∧ o.item < 20 := by
  obtain ⟨h1, h2, h3, h4, _⟩ := RunM.bad_zero h
  refine ⟨⟨?_, ?_, ?_⟩, h3, h4⟩
  · show (0 : Int) ≤ j; omega
  · show (j : Int) < 12; omega
  · show 1 ≤ mode o ∧ mode o ≤ 5
    rcases mode_two o with e | e <;> rw [e] <;> decide
theorem not_waiting {s : S} {G : List Int} {p h : Nat → List OpM} {j : Nat} (H : Inv s G p h) (hl : s.late j = []) : LkM.waiting s.locks j = false := by
  cases hc : LkM.waiting s.locks j with
  | false => rfl
  | true =>
    obtain ⟨i, m, h1⟩ := waiting_iff.1 hc
    obtain ⟨o, r, h2, _⟩ := H.wait j i m h1
    rw [hl] at h2; cases h2
theorem vic_waits {s : S} (hG : LkM.Good s.locks) {out : List Nat} {k : Nat} (hv : VicM.Vic 12 (waits s.locks) out) (hk : k ∈ out) : LkM.waiting s.locks k = true ∧ k < 12 := by
  have hp := vic_path hv k hk
  obtain ⟨c, hc⟩ := path_first hp
  exact ⟨edge_waits hG hc, hp.lt⟩
theorem lates_late {s : S} {j : Nat} {o : OpM} (hj : j < 12) : lates { s with late := upd s.late j (s.late j ++ [o]) } = lates s + 1 := by
  have := lates_upd (s := s) hj (s.late j ++ [o]) s.locks s.dead s.out
  rw [List.length_append, List.length_singleton] at this
  show lates ⟨_, _, _, _⟩ = _
  omega
theorem lates_one {s : S} {j : Nat} {o : OpM} {t : List LiM} (hj : j < 12) (hl : s.late j = []) : lates { s with locks := t, late := upd s.late j [o] } = lates s + 1 := by
  have := lates_upd (s := s) hj [o] t s.dead s.out
  rw [hl] at this
  simp only [List.length_nil, List.length_singleton] at this
  show lates ⟨_, _, _, _⟩ = _
  omega
theorem lates_wake {s : S} {j : Nat} {o : OpM} {r : List OpM} (hj : j < 12) (hl : s.late j = o :: r) : lates { s with late := upd s.late j [], out := s.out ++ [o] } + r.length + 1 = lates s := by
  have := lates_upd (s := s) hj [] s.locks s.dead (s.out ++ [o])
  rw [hl] at this
  simp only [List.length_nil, List.length_cons] at this
  show lates ⟨_, _, _, _⟩ + _ + _ = _
  omega
theorem lates_kill {s : S} {j : Nat} (hj : j < 12) : lates (kill s j) + (s.late j).length = lates s := by
  have := lates_upd (s := s) hj [] s.locks (upd s.dead j true) (s.out ++ [⟨j, 4, 0⟩])
  simp only [List.length_nil, Nat.add_zero] at this
  exact this
mutual
theorem take_inv {s s' : S} {o : OpM} : Take s o s' → ∀ {G : List Int} {p h : Nat → List OpM} {j : Nat}, o.tx = j → Inv s G (upd p j (o :: p j)) h → Inv s' G p h ∧ lates s' ≤ lates s + 1 ∧ (Acyc s.locks → Acyc s'.locks)
  | .dead h1 h2, G, p, h, j, hj, H => by
    obtain rfl := Int.natCast_inj.1 (h1.symm.trans hj)
    exact ⟨H.skip h2, by omega, id⟩
  | .late h1 h2 h3, G, p, h, j, hj, H => by
    obtain rfl := Int.natCast_inj.1 (h1.symm.trans hj)
    have hb := RunM.bad_zero (H.dom h2).2
    exact ⟨H.later h2 h3, by rw [lates_late (by omega)]; exact Nat.le_refl _, id⟩
  | .ends (s' := s') h1 h2 h3 h4 h5, G, p, h, j, hj, H => by
    obtain rfl := Int.natCast_inj.1 (h1.symm.trans hj)
    obtain ⟨a, b, c⟩ := drops_inv h5 H.good H.plain (H.ends hj h2 h3 h4)
    exact ⟨a, Nat.le_succ_of_le b, c⟩
  | .ok h1 h2 h3 h4 h5, G, p, h, j, hj, H => by
    obtain rfl := Int.natCast_inj.1 (h1.symm.trans hj)
    obtain ⟨hdm, hi1, hi2⟩ := askDom hj (H.dom h2).2
    have hg := ask_good hdm ⟨hi1, hi2⟩ H.good (not_waiting H h3)
    exact ⟨H.ok hj h2 h3 h4 hg (ask_yes H.good H.plain (mode_two o) h5), Nat.le_succ _, ask_edges H.good H.plain hg (mode_two o) h5 (not_waiting H h3)⟩
  | .wait h1 h2 h3 h4 h5 h6, G, p, h, j, hj, H => by
    obtain rfl := Int.natCast_inj.1 (h1.symm.trans hj)
    have hb := RunM.bad_zero (H.dom h2).2
    obtain ⟨hdm, hi1, hi2⟩ := askDom hj (H.dom h2).2
    have hg := ask_good hdm ⟨hi1, hi2⟩ H.good (not_waiting H h3)
    obtain ⟨a, b, c⟩ := free_inv h6 (H.waits h2 h3 h4 hg (ask_no H.good H.plain (mode_two o) (not_waiting H h3) h5))
    refine ⟨a, ?_, fun _ => c⟩
    rw [lates_one (by omega) h3] at b
    exact b
theorem drops_inv {s s' : S} {j : Nat} : Drops s j s' → ∀ {G : List Int} {p h : Nat → List OpM}, LkM.Good s.locks → LkM.Plain s.locks → Inv { s with locks := (drop s.locks j).1 } ((drop s.locks j).2 ++ G) p h → Inv s' G p h ∧ lates s' ≤ lates s ∧ (Acyc s.locks → Acyc s'.locks)
  | .mk h1, G, p, h, hG, hP, H => by
    obtain ⟨a, b, c⟩ := wakes_inv h1 H
    exact ⟨a, b, fun hA => c (drop_edges hG hP j hA)⟩
theorem wakes_inv {s s' : S} {g : List Int} : Wakes s g s' → ∀ {G : List Int} {p h : Nat → List OpM}, Inv s (g ++ G) p h → Inv s' G p h ∧ lates s' ≤ lates s ∧ (Acyc s.locks → Acyc s'.locks)
  | .nil, G, p, h, H => ⟨H, Nat.le_refl _, id⟩
  | .cons (j := j) (r := r) h1 h2 h3, G, p, h, H => by
    have hd := (H.open_ (j := j) (by rw [h1]; simp)).2
    have hr : ∀ x ∈ r, x.tx = (j : Int) := fun x hx => (H.wishes hd (o := x) (by rw [h1]; simp [hx])).1
    have hb := RunM.bad_zero (H.wishes hd (j := j) (o := _) (by rw [h1]; exact List.mem_append_left _ List.mem_cons_self)).2
    have ht := (H.wishes hd (j := j) (o := _) (by rw [h1]; exact List.mem_append_left _ List.mem_cons_self)).1
    have hl := lates_wake (s := s) (show j < 12 by omega) h1
    obtain ⟨a, b, c⟩ := takes_inv h2 hr (H.wake h1)
    obtain ⟨a', b', c'⟩ := wakes_inv h3 a
    exact ⟨a', by omega, fun hA => c' (c hA)⟩
theorem takes_inv {s s' : S} {r : List OpM} : Takes s r s' → ∀ {G : List Int} {p h : Nat → List OpM} {j : Nat}, (∀ o ∈ r, o.tx = (j : Int)) → Inv s G (upd p j (r ++ p j)) h → Inv s' G p h ∧ lates s' ≤ lates s + r.length ∧ (Acyc s.locks → Acyc s'.locks)
  | .nil, G, p, h, j, _, H => by
    refine ⟨?_, Nat.le_refl _, id⟩
    have : upd p j ([] ++ p j) = p := by
      funext i
      by_cases e : i = j
      · subst e; rw [upd_same]; rfl
      · rw [upd_other _ _ e]
    rwa [this] at H
  | .cons (o := o) (r := r) h1 h2, G, p, h, j, hr, H => by
    have hu : upd p j (o :: r ++ p j) = upd (upd p j (r ++ p j)) j (o :: (upd p j (r ++ p j)) j) := by
      funext i
      by_cases e : i = j
      · subst e; rw [upd_same, upd_same, upd_same]; rfl
      · rw [upd_other _ _ e, upd_other _ _ e, upd_other _ _ e]
    rw [hu] at H
    obtain ⟨a, b, c⟩ := take_inv h1 (hr _ List.mem_cons_self) H
    obtain ⟨a', b', c'⟩ := takes_inv h2 (fun x hx => hr x (List.mem_cons_of_mem _ hx)) a
    exact ⟨a', by rw [List.length_cons]; omega, fun hA => c' (c hA)⟩
theorem free_inv {s s' : S} : Free s s' → ∀ {G : List Int} {p h : Nat → List OpM}, Inv s G p h → Inv s' G p h ∧ lates s' ≤ lates s ∧ Acyc s'.locks
  | .done h1, G, p, h, H => ⟨H, Nat.le_refl _, acyc_of h1⟩
  | .step (k := k) h1 h2 h3 h4, G, p, h, H => by
    obtain ⟨hw, hk⟩ := vic_waits H.good h1 h2.1
    have hl := lates_kill (s := s) hk
    obtain ⟨a, b, _⟩ := drops_inv h3 (G := G) H.good H.plain (H.kills hw)
    obtain ⟨a', b', c'⟩ := free_inv h4 a
    exact ⟨a', by omega, c'⟩
end
def start : S := ⟨[], fun _ => [], fun _ => false, []⟩
theorem inv_start {l : List OpM} (hb : ∀ o ∈ l, RunM.bad o = 0) (hp : l.Pairwise fun x y => x.tx = y.tx → x.kind < 3) : Inv start [] (RunM.of l) (RunM.of l) := by
  refine ⟨LkM.Good.nil, LkM.Plain.nil, fun j o ho => ⟨(mem_of.1 ho).2, hb o (mem_of.1 ho).1⟩, fun j => ?_, fun j i m hw => ?_, by simp, by simp, fun j h => absurd rfl h, fun j _ => rfl, (fun j h => by cases h), by simp [start], fun j _ o ho => (by cases ho), fun j he => ?_, Rig.nil, fun j hn => ?_⟩
  · have h1 : (RunM.of l j).Pairwise fun x y => x.tx = y.tx → x.kind < 3 := hp.sublist List.filter_sublist
    exact List.Pairwise.imp_of_mem (fun {x y} hx hy h => h ((mem_of.1 hx).2.trans (mem_of.1 hy).2.symm)) h1
  · obtain ⟨x, hx, _⟩ := hw; cases hx
  · obtain ⟨o, ho, _⟩ := ended_iff.1 he; cases ho
  · obtain ⟨x, hx, _⟩ := hn; cases hx
/-- A run is taken, one operation behind another. -/
theorem run_inv {h : Nat → List OpM} : ∀ {l : List OpM} {s s' : S}, Takes s l s' → (∀ o ∈ l, RunM.bad o = 0) → Inv s [] (RunM.of l) h → Acyc s.locks → Inv s' [] (fun _ => []) h ∧ Acyc s'.locks
  | [], s, _, .nil, _, H, hA => ⟨H, hA⟩
  | o :: r, s, s', .cons h1 h2, hb, H, hA => by
    have hbo := RunM.bad_zero (hb o List.mem_cons_self)
    obtain ⟨j, hj⟩ : ∃ j : Nat, o.tx = j := ⟨o.tx.toNat, by omega⟩
    have hu : RunM.of (o :: r) = upd (RunM.of r) j (o :: RunM.of r j) := by
      funext i
      unfold RunM.of
      rw [List.filter_cons]
      by_cases e : i = j
      · subst e; rw [upd_same, if_pos (by simpa using hj)]
      · rw [upd_other _ _ e, if_neg (by simp; omega)]
    rw [hu] at H
    obtain ⟨a, _, c⟩ := take_inv h1 hj H
    exact run_inv h2 (fun x hx => hb x (List.mem_cons_of_mem _ hx)) a (c hA)
end TwoM
end
section
namespace TwoM
open LkM
section
variable {s : S} {l : List OpM}
/-- Whoever wishes to end gets there. -/
theorem Inv.nobody (H : Inv s [] (fun _ => []) (RunM.of l)) (hA : Acyc s.locks) (he : ∀ o ∈ l, ∃ x ∈ l, x.tx = o.tx ∧ 3 ≤ x.kind) (j : Nat) : s.late j = [] := by
  refine Classical.byContradiction fun hl => ?_
  have hw : ∀ q : Nat, s.late q ≠ [] → LkM.waiting s.locks q = true := fun q hq => (H.late q hq).resolve_left (by simp)
  have hlt : ∀ x : Nat, LkM.waiting s.locks x = true → x < 12 := fun x hx => by
    obtain ⟨i, m, h1⟩ := waiting_iff.1 hx
    obtain ⟨q, h2, h3⟩ := wait_nat H h1
    omega
  have hs : ∀ x : Nat, LkM.waiting s.locks x = true → ∃ y : Nat, LkM.waiting s.locks y = true ∧ GrM.E (LkM.waits s.locks) x y = true := fun x hx => by
    obtain ⟨i, m, y, hy, _, hq⟩ := waiting_iff.1 hx
    obtain ⟨e, h1, h2⟩ := waits_hit H.good hy hq
    have h2 : e.frm = (x : Int) := h2
    unfold LkM.waits at h1
    obtain ⟨a, b, h3, _, h5, _⟩ := mem_edgesOf.1 h1
    have : a = x := by rw [h3] at h2; have : (a : Int) = x := h2; omega
    subst this
    have hE : GrM.E (LkM.waits s.locks) a b = true := GrM.E_iff.2 (by unfold LkM.waits; rw [← h3]; exact h1)
    refine ⟨b, ?_, hE⟩
    obtain ⟨_, _, z, hz, k, hk, _, h6⟩ := edge_iff.1 hE
    rcases h6 with ⟨u, hu, hub, _⟩ | ⟨v, hv, hvb⟩
    · have hd := (H.good.ok z hz).held.dom u hu
      have hub : u.tx = (b : Int) := by rw [← hub]; exact (Int.toNat_of_nonneg hd.1).symm
      have hn : named s.locks b := ⟨z, hz, u, List.mem_append_left _ hu, hub⟩
      by_cases hlb : s.late b = []
      · exfalso
        have hend : ended s.out b = false := by
          cases hc : ended s.out b with
          | false => rfl
          | true => exact absurd hn (H.gone b hc)
        have hdd : s.dead b = false := by
          cases hc : s.dead b with
          | false => rfl
          | true => rw [mem_dead H hc] at hend; cases hend
        have hacc := H.alive b hdd
        rw [hlb, List.append_nil, List.append_nil] at hacc
        obtain ⟨o, ho, hob⟩ := (H.begun b hn).resolve_right (fun h => h hlb)
        have hol : o ∈ l := (mem_of.1 (by rw [← hacc]; exact mem_of.2 ⟨ho, hob⟩ : o ∈ RunM.of l b)).1
        obtain ⟨x, hx1, hx2, hx3⟩ := he o hol
        have hxo : x ∈ RunM.of s.out b := by rw [hacc]; exact mem_of.2 ⟨hx1, hx2.trans hob⟩
        have : ended s.out b = true := ended_iff.2 ⟨x, (mem_of.1 hxo).1, (mem_of.1 hxo).2, hx3⟩
        rw [hend] at this; cases this
      · exact hw b hlb
    · have hv' : v ∈ z.queue := List.mem_of_mem_take hv
      have hd := (H.good.ok z hz).queue.dom v hv'
      have hvb : v.tx = (b : Int) := by rw [← hvb]; exact (Int.toNat_of_nonneg hd.1).symm
      exact waiting_iff.2 ⟨z.item, v.mode, z, hz, rfl, by rw [← hvb]; exact hv'⟩
  obtain ⟨a, _, hp⟩ := GrM.loop_from (n := 12) (l := LkM.waits s.locks) (fun x : Nat => LkM.waiting s.locks x = true) hlt hs (hw j hl)
  exact hA a hp
theorem sum_one (f : Nat → Nat) (k : Nat) : ∀ n, k < n → ((List.range n).map fun i => f i + if i = k then 1 else 0).sum = ((List.range n).map f).sum + 1 := fun n hk => by
  have := sum_upd (f := f) (g := fun i => f i + if i = k then 1 else 0) (k := k) (fun i hi => by simp [hi]) n hk
  simp only [if_true] at this
  omega
theorem of_sum : ∀ (l : List OpM), (∀ o ∈ l, ∃ j : Nat, o.tx = j ∧ j < 12) → ((List.range 12).map fun k => (RunM.of l k).length).sum = l.length
  | [], _ => by decide
  | o :: r, h => by
    obtain ⟨j, hj, hlt⟩ := h o List.mem_cons_self
    have e : (fun k => (RunM.of (o :: r) k).length) = fun k => (RunM.of r k).length + if k = j then 1 else 0 := by
      funext k
      unfold RunM.of
      rw [List.filter_cons]
      by_cases hk : k = j
      · subst hk; rw [if_pos (by simpa using hj), if_pos rfl]; rfl
      · rw [if_neg (by simp; omega), if_neg hk]; rfl
    rw [e, sum_one _ _ _ hlt, of_sum r (fun x hx => h x (List.mem_cons_of_mem _ hx))]
    rfl
theorem sum_le {f g : Nat → Nat} (n : Nat) (h : ∀ k, k < n → f k ≤ g k) : ((List.range n).map f).sum ≤ ((List.range n).map g).sum := by
  induction n with
  | zero => simp
  | succ n ih =>
    rw [List.range_succ, List.map_append, List.map_append, List.sum_append, List.sum_append]
    simp only [List.map_cons, List.map_nil, List.sum_cons, List.sum_nil]
    have := ih (fun k hk => h k (by omega)); have := h n (by omega)
    omega
/-- How many operations there are. -/
def total (h : Nat → List OpM) : Nat := ((List.range 12).map fun k => (h k).length).sum
theorem part_le {s : S} {G : List Int} {p h : Nat → List OpM} (H : Inv s G p h) (j : Nat) : (RunM.of s.out j).length ≤ (h j).length ∧ (s.late j).length ≤ (h j).length := by
  cases hd : s.dead j with
  | false =>
    rw [← H.alive j hd, List.length_append, List.length_append]; omega
  | true =>
    obtain ⟨h0, pre, r, h1, h2, h3⟩ := H.died j hd
    have := List.length_pos_iff.2 h3
    rw [h0, h1, h2, List.length_append, List.length_append, List.length_singleton, List.length_nil]; omega
theorem le_sum (f : Nat → Nat) : ∀ n k, k < n → f k ≤ ((List.range n).map f).sum
  | 0, k, hk => by omega
  | n + 1, k, hk => by
    rw [List.range_succ, List.map_append, List.sum_append]
    simp only [List.map_cons, List.map_nil, List.sum_cons, List.sum_nil]
    by_cases e : k = n
    · subst e; omega
    · have := le_sum f n k (by omega); omega
theorem small {s : S} {G : List Int} {p h : Nat → List OpM} (H : Inv s G p h) (ht : total h ≤ 200) : s.out.length ≤ 200 ∧ ∀ j, (s.late j).length ≤ 200 := by
  have hj12 : ∀ j, h j ≠ [] → j < 12 := fun j hn => by
    obtain ⟨o, ho⟩ := List.exists_mem_of_ne_nil _ hn
    obtain ⟨h1, h2⟩ := H.ops j o ho
    have := RunM.bad_zero h2
    omega
  constructor
  · have h1 := of_sum s.out (fun o ho => by
      obtain ⟨j, hj⟩ := H.outs o ho
      refine ⟨j, hj, hj12 j fun e => ?_⟩
      have := (part_le H j).1
      rw [e] at this
      have h2 : o ∈ RunM.of s.out j := mem_of.2 ⟨ho, hj⟩
      have h3 : RunM.of s.out j = [] := List.eq_nil_of_length_eq_zero (by simpa using this)
      rw [h3] at h2; cases h2)
    have h3 := sum_le (f := fun k => (RunM.of s.out k).length) (g := fun k => (h k).length) 12 (fun k _ => (part_le H k).1)
    unfold total at ht
    omega
  · intro j
    have h1 := (part_le H j).2
    by_cases e : h j = []
    · rw [e] at h1; simp at h1; rw [h1]; simp
    · have := le_sum (fun k => (h k).length) 12 j (hj12 j e)
      unfold total at ht
      omega
/-- What of each transaction has been done. -/
theorem Inv.part (H : Inv s [] (fun _ => []) (RunM.of l)) (j : Nat) : (∀ o ∈ RunM.of s.out j, RunM.bad o = 0) ∧ (RunM.of s.out j).Pairwise (fun x _ => x.kind < 3) ∧ (RunM.of s.out j).length ≤ (RunM.of l j).length := by
  cases hd : s.dead j with
  | false =>
    have h1 := H.alive j hd
    rw [List.append_nil] at h1
    refine ⟨fun o ho => (H.ops j o (by rw [← h1]; exact List.mem_append_left _ ho)).2, ?_, by rw [← h1, List.length_append]; omega⟩
    have := H.last j
    rw [← h1] at this
    exact (List.pairwise_append.1 this).1
  | true =>
    obtain ⟨_, pre, r, h1, h2, h3⟩ := H.died j hd
    have h4 := H.last j
    rw [h2, List.pairwise_append] at h4
    obtain ⟨y, hy⟩ := List.exists_mem_of_ne_nil _ h3
    obtain ⟨y1, y2⟩ := H.ops j y (by rw [h2]; exact List.mem_append_right _ hy)
    have y3 := RunM.bad_zero y2
    rw [h1]
    refine ⟨fun o ho => ?_, ?_, ?_⟩
    · rcases List.mem_append.1 ho with ho | ho
      · exact (H.ops j o (by rw [h2]; exact List.mem_append_left _ ho)).2
      · rw [List.mem_singleton.1 ho]
        unfold RunM.bad
        rw [if_neg (by dsimp only; omega), if_neg (by dsimp only; omega), if_pos (by dsimp only; omega)]
    · rw [List.pairwise_append]
      exact ⟨h4.1, List.pairwise_singleton _ _, fun x hx _ _ => h4.2.2 x hx y hy⟩
    · rw [h2, List.length_append, List.length_append, List.length_singleton]
      have := List.length_pos_iff.2 h3
      omega
end
end TwoM
end
end Go.Proofs.YtnnkejolfhhmlaaGreat
