/- Tables of locks, in plain Lean: Check, Ask, Drop, Waits and what they keep. -/
import Derived.Test.YtjbmkhalmmahkaaLkJ
namespace Go.Proofs.Ytjbmkhalmmahkaa

structure LkM where
  tx : Int
  mode : Int
  deriving Inhabited, DecidableEq
structure LiM where
  item : Int
  held : List LkM
  queue : List LkM
  deriving Inhabited

namespace LkM
/-- Does the list hold a lock of this transaction? -/
def has (l : List LkM) (tx : Int) : Bool := l.any fun h => h.tx == tx
def wish (held : List LkM) (a : LkM) : Int := match held.find? (fun h => h.tx == a.tx) with | some h => LockM.joinZ h.mode a.mode | none => a.mode
/-- Is b in the way of mode m of transaction tx? -/
def bars (tx m : Int) (h : LkM) : Bool := h.tx != tx && !LockM.fitB m h.mode
def can (held : List LkM) (a : LkM) : Bool := !held.any (bars a.tx (wish held a))
def give (held : List LkM) (a : LkM) : List LkM :=
  if has held a.tx = true then held.set (held.findIdx fun h => h.tx == a.tx) ⟨a.tx, wish held a⟩ else held ++ [⟨a.tx, wish held a⟩]
/-- Locks in their bounds, of transactions not yet seen, each once. -/
def marks (l : List LkM) : Bool := (l.all fun h => decide (0 ≤ h.tx ∧ h.tx < 12 ∧ 1 ≤ h.mode ∧ h.mode ≤ 5)) && decide ((l.map LkM.tx).Nodup)
def fitAll : List LkM → Bool
  | [] => true
  | a :: r => r.all (fun b => LockM.fitB a.mode b.mode) && fitAll r
def first (x : LiM) : Bool := match x.queue with | [] => false | a :: _ => can x.held a
def line (x : LiM) : Bool := marks x.held && fitAll x.held && marks x.queue && !first x
def checkFrom : Int → List LiM → Int
  | _, [] => 0
  | p, x :: r => if x.item < 0 ∨ 20 ≤ x.item then 1 else if x.item ≤ p ∨ x.held = [] then 4 else if line x = true then checkFrom x.item r else 4
def check (t : List LiM) : Int := if 20 < t.length then 2 else checkFrom (-1) t

/-- A table that Check lets by. -/
structure Okl (l : List LkM) : Prop where
  dom : ∀ h ∈ l, 0 ≤ h.tx ∧ h.tx < 12 ∧ 1 ≤ h.mode ∧ h.mode ≤ 5
  once : (l.map LkM.tx).Nodup
structure Ok (x : LiM) : Prop where
  held : Okl x.held
  fit : x.held.Pairwise fun a b => LockM.fitB a.mode b.mode = true
  queue : Okl x.queue
  first : ∀ a r, x.queue = a :: r → can x.held a = false
structure Good (t : List LiM) : Prop where
  items : ∀ x ∈ t, 0 ≤ x.item ∧ x.item < 20
  rise : t.Pairwise fun x y => x.item < y.item
  some_ : ∀ x ∈ t, x.held ≠ []
  ok : ∀ x ∈ t, Ok x

theorem marks_iff {l : List LkM} : marks l = true ↔ Okl l := by
  unfold marks
  rw [Bool.and_eq_true, List.all_eq_true, decide_eq_true_iff]
  constructor
  · rintro ⟨h1, h2⟩; exact ⟨fun h hh => of_decide_eq_true (h1 h hh), h2⟩
  · rintro ⟨h1, h2⟩; exact ⟨fun h hh => decide_eq_true (h1 h hh), h2⟩
theorem fitAll_iff : ∀ {l : List LkM}, fitAll l = true ↔ l.Pairwise fun a b => LockM.fitB a.mode b.mode = true
  | [] => by simp [fitAll]
  | a :: r => by
    rw [List.pairwise_cons, ← fitAll_iff (l := r), show fitAll (a :: r) = (r.all (fun b => LockM.fitB a.mode b.mode) && fitAll r) from rfl, Bool.and_eq_true, List.all_eq_true]
theorem line_iff {x : LiM} : line x = true ↔ Ok x := by
  unfold line
  rw [Bool.and_eq_true, Bool.and_eq_true, Bool.and_eq_true, marks_iff, fitAll_iff, marks_iff]
  constructor
  · rintro ⟨⟨⟨h1, h2⟩, h3⟩, h4⟩
    refine ⟨h1, h2, h3, fun a r e => ?_⟩
    unfold first at h4
    rw [e] at h4
    simpa using h4
  · rintro ⟨h1, h2, h3, h4⟩
    refine ⟨⟨⟨h1, h2⟩, h3⟩, ?_⟩
    unfold first
    cases hq : x.queue with
    | nil => rfl
    | cons a r => simp [h4 a r hq]
theorem checkFrom_iff : ∀ (t : List LiM) (p : Int), -1 ≤ p → (checkFrom p t = 0 ↔ (∀ x ∈ t, p < x.item) ∧ Good t)
  | [], p, _ => by
    constructor
    · intro _; exact ⟨by simp, ⟨by simp, by simp, by simp, by simp⟩⟩
    · intro _; rfl
  | x :: r, p, hp => by
    unfold checkFrom
    constructor
    · intro h
      split at h
      · cases h
      rename_i h1
      split at h
      · cases h
      rename_i h2
      split at h
      case isFalse => cases h
      rename_i h3
      obtain ⟨g1, g2⟩ := (checkFrom_iff r x.item (by omega)).1 h
      have h4 : ¬ x.item ≤ p := fun e => h2 (Or.inl e)
      have h5 : x.held ≠ [] := fun e => h2 (Or.inr e)
      refine ⟨fun y hy => ?_, ⟨fun y hy => ?_, List.pairwise_cons.2 ⟨fun y hy => g1 y hy, g2.rise⟩, fun y hy => ?_, fun y hy => ?_⟩⟩
      · rcases List.mem_cons.1 hy with rfl | hy
        · omega
        · have := g1 y hy; omega
      · rcases List.mem_cons.1 hy with rfl | hy
        · omega
        · exact g2.items y hy
      · rcases List.mem_cons.1 hy with rfl | hy
        · exact h5
        · exact g2.some_ y hy
      · rcases List.mem_cons.1 hy with rfl | hy
        · exact line_iff.1 h3
        · exact g2.ok y hy
    · rintro ⟨h1, h2⟩
      have a1 := h2.items x List.mem_cons_self
      have a2 := h1 x List.mem_cons_self
      have a3 := h2.some_ x List.mem_cons_self
      rw [if_neg (by omega), if_neg (by rintro (h | h); omega; exact a3 h), if_pos (line_iff.2 (h2.ok x List.mem_cons_self))]
      refine (checkFrom_iff r x.item (by omega)).2 ⟨(List.pairwise_cons.1 h2.rise).1, ⟨fun y hy => h2.items y (List.mem_cons_of_mem _ hy), (List.pairwise_cons.1 h2.rise).2, fun y hy => h2.some_ y (List.mem_cons_of_mem _ hy), fun y hy => h2.ok y (List.mem_cons_of_mem _ hy)⟩⟩
theorem rise_len : ∀ (t : List LiM) (p : Int), (∀ x ∈ t, p < x.item) → (t.Pairwise fun x y => x.item < y.item) → (∀ x ∈ t, x.item < 20) → p < 20 → (t.length : Int) ≤ 19 - p
  | [], p, _, _, _, hp => by simp; omega
  | x :: r, p, h1, h2, h3, _ => by
    have a1 := h1 x List.mem_cons_self
    have a2 := h3 x List.mem_cons_self
    have := rise_len r x.item (List.pairwise_cons.1 h2).1 (List.pairwise_cons.1 h2).2 (fun y hy => h3 y (List.mem_cons_of_mem _ hy)) a2
    rw [List.length_cons]
    omega
theorem Good.len {t : List LiM} (h : Good t) : t.length ≤ 20 := by
  have := rise_len t (-1) (fun x hx => by have := h.items x hx; omega) h.rise (fun x hx => (h.items x hx).2) (by omega)
  omega
theorem check_iff {t : List LiM} : check t = 0 ↔ Good t := by
  unfold check
  constructor
  · intro h
    split at h
    · cases h
    · exact ((checkFrom_iff t (-1) (by omega)).1 h).2
  · intro h
    have := h.len
    rw [if_neg (by omega)]
    exact (checkFrom_iff t (-1) (by omega)).2 ⟨fun x hx => by have := h.items x hx; omega, h⟩
theorem Good.nil : Good [] := ⟨by simp, by simp, by simp, by simp⟩
theorem okl_len {l : List LkM} (h : Okl l) : l.length ≤ 12 := by
  have h1 : ((l.map LkM.tx).map Int.toNat).Nodup := by
    rw [List.nodup_iff_pairwise_ne, List.pairwise_map]
    refine List.Pairwise.imp_of_mem ?_ (List.nodup_iff_pairwise_ne.1 h.once)
    intro a b ha hb hne e
    obtain ⟨x, hx, rfl⟩ := List.mem_map.1 ha
    obtain ⟨y, hy, rfl⟩ := List.mem_map.1 hb
    have := h.dom x hx; have := h.dom y hy
    omega
  have h2 := List.Nodup.length_le_of_subset h1 (l₂ := List.range 12) (by
    intro k hk
    obtain ⟨z, hz, rfl⟩ := List.mem_map.1 hk
    obtain ⟨x, hx, rfl⟩ := List.mem_map.1 hz
    have := h.dom x hx
    rw [List.mem_range]; omega)
  simpa using h2

/-- Ask, for a table that Check lets by and arguments in their bounds. -/
def ahead (held : List LkM) : List LkM → Nat
  | [] => 0
  | a :: r => if has held a.tx = true then ahead held r + 1 else 0
def enqueue (x : LiM) (a : LkM) : List LkM :=
  if has x.held a.tx = true then x.queue.take (ahead x.held x.queue) ++ a :: x.queue.drop (ahead x.held x.queue) else x.queue ++ [a]
def askItem (x : LiM) (a : LkM) : LiM × Bool :=
  if can x.held a = true ∧ (has x.held a.tx = true ∨ x.queue = []) then ({ x with held := give x.held a }, true) else ({ x with queue := enqueue x a }, false)
def askIn (item : Int) (a : LkM) : List LiM → List LiM × Bool
  | [] => ([⟨item, [a], []⟩], true)
  | x :: r => if x.item < item then (x :: (askIn item a r).1, (askIn item a r).2) else if x.item = item then ((askItem x a).1 :: r, (askItem x a).2) else (⟨item, [a], []⟩ :: x :: r, true)
def waiting (t : List LiM) (tx : Int) : Bool := t.any fun x => has x.queue tx
def askE (t : List LiM) (tx item mode : Int) : Int :=
  if check t ≠ 0 then check t else if tx < 0 ∨ 12 ≤ tx ∨ item < 0 ∨ 20 ≤ item ∨ ¬ (1 ≤ mode ∧ mode ≤ 5) then 1 else if waiting t tx = true then 10 else 0

/-- Drop. -/
def serve : Nat → List LkM → List LkM → List Int → List LkM × List LkM × List Int
  | 0, held, queue, g => (held, queue, g)
  | f + 1, held, queue, g => match queue with
    | [] => (held, [], g)
    | a :: r => if can held a = true then serve f (give held a) r (g ++ [a.tx]) else (held, a :: r, g)
def without (l : List LkM) (tx : Int) : List LkM := l.filter fun h => h.tx != tx
def dropItem (x : LiM) (tx : Int) (g : List Int) : LiM × List Int :=
  let s := serve (without x.queue tx).length (without x.held tx) (without x.queue tx) g
  (⟨x.item, s.1, s.2.1⟩, s.2.2)
def dropGo (tx : Int) : List LiM → List LiM → List Int → List LiM × List Int
  | [], out, g => (out, g)
  | x :: r, out, g => dropGo tx r (if (dropItem x tx g).1.held = [] then out else out ++ [(dropItem x tx g).1]) (dropItem x tx g).2
def drop (t : List LiM) (tx : Int) : List LiM × List Int := dropGo tx t [] []
def dropE (t : List LiM) (tx : Int) : Int := if check t ≠ 0 then check t else if tx < 0 ∨ 12 ≤ tx then 1 else 0
end LkM
end Go.Proofs.Ytjbmkhalmmahkaa
