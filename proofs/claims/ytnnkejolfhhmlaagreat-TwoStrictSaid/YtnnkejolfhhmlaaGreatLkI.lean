/- Facts on the types of locks. -/
import Derived.Test.YtnnkejolfhhmlaaGreatLawKit
import Derived.WalkKit
import Derived.WalkSpells
import Derived.WalkLawsBesides
import Derived.Lib.Hide
import Derived.Test.YtnnkejolfhhmlaaGreatHeap
import Derived.Deep.Strs
import Derived.Lib.SmallJoins
namespace Go.Proofs.YtnnkejolfhhmlaaGreat
section
open Go.RowKit Go.Lib

def LockM.fitsZ (a : Int) : Int := if a = 1 then 30 else if a = 2 then 6 else if a = 3 then 10 else if a = 4 then 2 else 0
def LockM.fitB (a b : Int) : Bool := (LockM.fitsZ a / 2 ^ b.toNat) % 2 == 1
def LockM.joinZ (a b : Int) : Int := if min a b = 2 ∧ max a b = 3 then 4 else max a b
theorem LockM.five {a : Int} (h : 1 ≤ a ∧ a ≤ 5) : a = 1 ∨ a = 2 ∨ a = 3 ∨ a = 4 ∨ a = 5 := by omega

set_option maxHeartbeats 400000 in
theorem join_yes (a b : Int) (w : World) (ha : 1 ≤ a ∧ a ≤ 5) (hb : 1 ≤ b ∧ b ≤ 5) :
    Calls Tryz.prog 132 #[.int .i64 a, .int .i64 b] w fun e w' => e = .returned (.tuple #[.int .i64 (LockM.joinZ a b), .int .i64 0]) ∧ w = w' := by
  rcases LockM.five ha with rfl | rfl | rfl | rfl | rfl <;> rcases LockM.five hb with rfl | rfl | rfl | rfl | rfl
  all_goals
    go_enter Tryz.func132, Tryz.ntmps132
    go_wp2
    go_ret2
    refine ⟨?_, rfl⟩
    kernel_rfl

set_option maxHeartbeats 400000 in
theorem isMode_any (a : Int) (w : World) :
    Calls Tryz.prog 67 #[.int .i64 a] w fun e w' => e = .returned (.bool (decide (1 ≤ a ∧ a ≤ 5))) ∧ w = w' := by
  by_cases h : 1 ≤ a
  · have h' : decide (1 ≤ a) = true := by simpa using h
    go_enter Tryz.func67, Tryz.ntmps67
    go_wp2
    go_ret
    exact ⟨by simp [h], rfl⟩
  · have h' : decide (1 ≤ a) = false := by simpa using h
    go_enter Tryz.func67, Tryz.ntmps67
    go_wp2
    go_ret
    exact ⟨by simp, rfl⟩

theorem isMode_yes (a : Int) (w : World) (h : 1 ≤ a ∧ a ≤ 5) :
    Calls Tryz.prog 67 #[.int .i64 a] w fun e w' => e = .returned (.bool true) ∧ w = w' :=
  (isMode_any a w).mono fun e w' ⟨h1, h2⟩ => ⟨by rw [h1, decide_eq_true h], h2⟩
theorem isMode_no (a : Int) (w : World) (h : ¬ (1 ≤ a ∧ a ≤ 5)) :
    Calls Tryz.prog 67 #[.int .i64 a] w fun e w' => e = .returned (.bool false) ∧ w = w' :=
  (isMode_any a w).mono fun e w' ⟨h1, h2⟩ => ⟨by rw [h1, decide_eq_false h], h2⟩

set_option maxHeartbeats 400000 in
theorem fits_in (a : Int) (w : World) (ha : 1 ≤ a ∧ a ≤ 5) :
    Calls Tryz.prog 106 #[.int .i64 a] w fun e w' => e = .returned (.int .i64 (LockM.fitsZ a)) ∧ w = w' := by
  rcases LockM.five ha with rfl | rfl | rfl | rfl | rfl
  all_goals
    go_enter Tryz.func106, Tryz.ntmps106
    go_wp2
    go_ret
    exact ⟨rfl, rfl⟩
end
section
structure LkM where
  tx : Int
  mode : Int
  deriving Inhabited, DecidableEq
structure LiM where
  item : Int
  held : List LkM
  queue : List LkM
  deriving Inhabited

namespace LkM
/-- Does the list hold a lock of this transaction? -/
def has (l : List LkM) (tx : Int) : Bool := l.any fun h => h.tx == tx
def wish (held : List LkM) (a : LkM) : Int := match held.find? (fun h => h.tx == a.tx) with | some h => LockM.joinZ h.mode a.mode | none => a.mode
/-- Is b in the way of mode m of transaction tx? -/
def bars (tx m : Int) (h : LkM) : Bool := h.tx != tx && !LockM.fitB m h.mode
def can (held : List LkM) (a : LkM) : Bool := !held.any (bars a.tx (wish held a))
def give (held : List LkM) (a : LkM) : List LkM :=
  if has held a.tx = true then held.set (held.findIdx fun h => h.tx == a.tx) ⟨a.tx, wish held a⟩ else held ++ [⟨a.tx, wish held a⟩]
/-- Locks in their bounds, of transactions not yet seen, each once. -/
def marks (l : List LkM) : Bool := (l.all fun h => decide (0 ≤ h.tx ∧ h.tx < 12 ∧ 1 ≤ h.mode ∧ h.mode ≤ 5)) && decide ((l.map LkM.tx).Nodup)
def fitAll : List LkM → Bool
  | [] => true
  | a :: r => r.all (fun b => LockM.fitB a.mode b.mode) && fitAll r
def first (x : LiM) : Bool := match x.queue with | [] => false | a :: _ => can x.held a
def line (x : LiM) : Bool := marks x.held && fitAll x.held && marks x.queue && !first x
def checkFrom : Int → List LiM → Int
  | _, [] => 0
  | p, x :: r => if x.item < 0 ∨ 20 ≤ x.item then 1 else if x.item ≤ p ∨ x.held = [] then 4 else if line x = true then checkFrom x.item r else 4
def check (t : List LiM) : Int := if 20 < t.length then 2 else checkFrom (-1) t

/-- A table that Check lets by. -/
structure Okl (l : List LkM) : Prop where
  dom : ∀ h ∈ l, 0 ≤ h.tx ∧ h.tx < 12 ∧ 1 ≤ h.mode ∧ h.mode ≤ 5
  once : (l.map LkM.tx).Nodup
structure Ok (x : LiM) : Prop where
  held : Okl x.held
  fit : x.held.Pairwise fun a b => LockM.fitB a.mode b.mode = true
  queue : Okl x.queue
  first : ∀ a r, x.queue = a :: r → can x.held a = false
structure Good (t : List LiM) : Prop where
  items : ∀ x ∈ t, 0 ≤ x.item ∧ x.item < 20
  rise : t.Pairwise fun x y => x.item < y.item
  some_ : ∀ x ∈ t, x.held ≠ []
  ok : ∀ x ∈ t, Ok x

theorem marks_iff {l : List LkM} : marks l = true ↔ Okl l := by
  unfold marks
  rw [Bool.and_eq_true, List.all_eq_true, decide_eq_true_iff]
  constructor
  · rintro ⟨h1, h2⟩; exact ⟨fun h hh => of_decide_eq_true (h1 h hh), h2⟩
  · rintro ⟨h1, h2⟩; exact ⟨fun h hh => decide_eq_true (h1 h hh), h2⟩
theorem fitAll_iff : ∀ {l : List LkM}, fitAll l = true ↔ l.Pairwise fun a b => LockM.fitB a.mode b.mode = true
  | [] => by simp [fitAll]
  | a :: r => by
    rw [List.pairwise_cons, ← fitAll_iff (l := r), show fitAll (a :: r) = (r.all (fun b => LockM.fitB a.mode b.mode) && fitAll r) from rfl, Bool.and_eq_true, List.all_eq_true]
theorem line_iff {x : LiM} : line x = true ↔ Ok x := by
  unfold line
  rw [Bool.and_eq_true, Bool.and_eq_true, Bool.and_eq_true, marks_iff, fitAll_iff, marks_iff]
  constructor
  · rintro ⟨⟨⟨h1, h2⟩, h3⟩, h4⟩
    refine ⟨h1, h2, h3, fun a r e => ?_⟩
    unfold first at h4
    rw [e] at h4
    simpa using h4
  · rintro ⟨h1, h2, h3, h4⟩
    refine ⟨⟨⟨h1, h2⟩, h3⟩, ?_⟩
    unfold first
    cases hq : x.queue with
    | nil => rfl
    | cons a r => simp [h4 a r hq]
theorem checkFrom_iff : ∀ (t : List LiM) (p : Int), -1 ≤ p → (checkFrom p t = 0 ↔ (∀ x ∈ t, p < x.item) ∧ Good t)
  | [], p, _ => by
    constructor
    · intro _; exact ⟨by simp, ⟨by simp, by simp, by simp, by simp⟩⟩
    · intro _; rfl
  | x :: r, p, hp => by
    unfold checkFrom
    constructor
    · intro h
      split at h
      · cases h
      rename_i h1
      split at h
      · cases h
      rename_i h2
      split at h
      case isFalse => cases h
      rename_i h3
      obtain ⟨g1, g2⟩ := (checkFrom_iff r x.item (by omega)).1 h
      have h4 : ¬ x.item ≤ p := fun e => h2 (Or.inl e)
      have h5 : x.held ≠ [] := fun e => h2 (Or.inr e)
      refine ⟨fun y hy => ?_, ⟨fun y hy => ?_, List.pairwise_cons.2 ⟨fun y hy => g1 y hy, g2.rise⟩, fun y hy => ?_, fun y hy => ?_⟩⟩
      · rcases List.mem_cons.1 hy with rfl | hy
        · omega
        · have := g1 y hy; omega
      · rcases List.mem_cons.1 hy with rfl | hy
        · omega
        · exact g2.items y hy
      · rcases List.mem_cons.1 hy with rfl | hy
        · exact h5
        · exact g2.some_ y hy
      · rcases List.mem_cons.1 hy with rfl | hy
        · exact line_iff.1 h3
        · exact g2.ok y hy
    · rintro ⟨h1, h2⟩
      have a1 := h2.items x List.mem_cons_self
      have a2 := h1 x List.mem_cons_self
      have a3 := h2.some_ x List.mem_cons_self
      rw [if_neg (by omega), if_neg (by rintro (h | h); omega; exact a3 h), if_pos (line_iff.2 (h2.ok x List.mem_cons_self))]
      refine (checkFrom_iff r x.item (by omega)).2 ⟨(List.pairwise_cons.1 h2.rise).1, ⟨fun y hy => h2.items y (List.mem_cons_of_mem _ hy), (List.pairwise_cons.1 h2.rise).2, fun y hy => h2.some_ y (List.mem_cons_of_mem _ hy), fun y hy => h2.ok y (List.mem_cons_of_mem _ hy)⟩⟩
theorem rise_len : ∀ (t : List LiM) (p : Int), (∀ x ∈ t, p < x.item) → (t.Pairwise fun x y => x.item < y.item) → (∀ x ∈ t, x.item < 20) → p < 20 → (t.length : Int) ≤ 19 - p
  | [], p, _, _, _, hp => by simp; omega
  | x :: r, p, h1, h2, h3, _ => by
    have a1 := h1 x List.mem_cons_self
    have a2 := h3 x List.mem_cons_self
    have := rise_len r x.item (List.pairwise_cons.1 h2).1 (List.pairwise_cons.1 h2).2 (fun y hy => h3 y (List.mem_cons_of_mem _ hy)) a2
    rw [List.length_cons]
    omega
theorem Good.len {t : List LiM} (h : Good t) : t.length ≤ 20 := by
  have := rise_len t (-1) (fun x hx => by have := h.items x hx; omega) h.rise (fun x hx => (h.items x hx).2) (by omega)
  omega
theorem check_iff {t : List LiM} : check t = 0 ↔ Good t := by
  unfold check
  constructor
  · intro h
    split at h
    · cases h
    · exact ((checkFrom_iff t (-1) (by omega)).1 h).2
  · intro h
    have := h.len
    rw [if_neg (by omega)]
    exact (checkFrom_iff t (-1) (by omega)).2 ⟨fun x hx => by have := h.items x hx; omega, h⟩
theorem Good.nil : Good [] := ⟨by simp, by simp, by simp, by simp⟩
theorem okl_len {l : List LkM} (h : Okl l) : l.length ≤ 12 := by
  have h1 : ((l.map LkM.tx).map Int.toNat).Nodup := by
    rw [List.nodup_iff_pairwise_ne, List.pairwise_map]
    refine List.Pairwise.imp_of_mem ?_ (List.nodup_iff_pairwise_ne.1 h.once)
    intro a b ha hb hne e
    obtain ⟨x, hx, rfl⟩ := List.mem_map.1 ha
    obtain ⟨y, hy, rfl⟩ := List.mem_map.1 hb
    have := h.dom x hx; have := h.dom y hy
    omega
  have h2 := List.Nodup.length_le_of_subset h1 (l₂ := List.range 12) (by
    intro k hk
    obtain ⟨z, hz, rfl⟩ := List.mem_map.1 hk
    obtain ⟨x, hx, rfl⟩ := List.mem_map.1 hz
    have := h.dom x hx
    rw [List.mem_range]; omega)
  simpa using h2

/-- Ask, for a table that Check lets by and arguments in their bounds. -/
def ahead (held : List LkM) : List LkM → Nat
  | [] => 0
  | a :: r => if has held a.tx = true then ahead held r + 1 else 0
def enqueue (x : LiM) (a : LkM) : List LkM :=
  if has x.held a.tx = true then x.queue.take (ahead x.held x.queue) ++ a :: x.queue.drop (ahead x.held x.queue) else x.queue ++ [a]
def askItem (x : LiM) (a : LkM) : LiM × Bool :=
  if can x.held a = true ∧ (has x.held a.tx = true ∨ x.queue = []) then ({ x with held := give x.held a }, true) else ({ x with queue := enqueue x a }, false)
def askIn (item : Int) (a : LkM) : List LiM → List LiM × Bool
  | [] => ([⟨item, [a], []⟩], true)
  | x :: r => if x.item < item then (x :: (askIn item a r).1, (askIn item a r).2) else if x.item = item then ((askItem x a).1 :: r, (askItem x a).2) else (⟨item, [a], []⟩ :: x :: r, true)
def waiting (t : List LiM) (tx : Int) : Bool := t.any fun x => has x.queue tx
def askE (t : List LiM) (tx item mode : Int) : Int :=
  if check t ≠ 0 then check t else if tx < 0 ∨ 12 ≤ tx ∨ item < 0 ∨ 20 ≤ item ∨ ¬ (1 ≤ mode ∧ mode ≤ 5) then 1 else if waiting t tx = true then 10 else 0

/-- Drop. -/
def serve : Nat → List LkM → List LkM → List Int → List LkM × List LkM × List Int
  | 0, held, queue, g => (held, queue, g)
  | f + 1, held, queue, g => match queue with
    | [] => (held, [], g)
    | a :: r => if can held a = true then serve f (give held a) r (g ++ [a.tx]) else (held, a :: r, g)
def without (l : List LkM) (tx : Int) : List LkM := l.filter fun h => h.tx != tx
def dropItem (x : LiM) (tx : Int) (g : List Int) : LiM × List Int :=
  let s := serve (without x.queue tx).length (without x.held tx) (without x.queue tx) g
  (⟨x.item, s.1, s.2.1⟩, s.2.2)
def dropGo (tx : Int) : List LiM → List LiM → List Int → List LiM × List Int
  | [], out, g => (out, g)
  | x :: r, out, g => dropGo tx r (if (dropItem x tx g).1.held = [] then out else out ++ [(dropItem x tx g).1]) (dropItem x tx g).2
def drop (t : List LiM) (tx : Int) : List LiM × List Int := dropGo tx t [] []
def dropE (t : List LiM) (tx : Int) : Int := if check t ≠ 0 then check t else if tx < 0 ∨ 12 ≤ tx then 1 else 0
end LkM
end
section
namespace LkM
def Md (m : Int) : Prop := 1 ≤ m ∧ m ≤ 5
theorem fit_comm {a b : Int} (ha : Md a) (hb : Md b) : LockM.fitB a b = LockM.fitB b a := by
  rcases LockM.five ha with rfl | rfl | rfl | rfl | rfl <;> rcases LockM.five hb with rfl | rfl | rfl | rfl | rfl <;> decide
theorem join_md {a b : Int} (ha : Md a) (hb : Md b) : Md (LockM.joinZ a b) := by
  unfold Md at *; unfold LockM.joinZ; split <;> omega
theorem fit_join {m a b : Int} (hm : Md m) (ha : Md a) (hb : Md b) (h : LockM.fitB m (LockM.joinZ a b) = true) : LockM.fitB m a = true := by
  revert h
  rcases LockM.five hm with rfl | rfl | rfl | rfl | rfl <;> rcases LockM.five ha with rfl | rfl | rfl | rfl | rfl <;> rcases LockM.five hb with rfl | rfl | rfl | rfl | rfl <;> decide
theorem has_iff {l : List LkM} {tx : Int} : has l tx = true ↔ ∃ h ∈ l, h.tx = tx := by
  unfold has; rw [List.any_eq_true]
  constructor
  · rintro ⟨h, h1, h2⟩; exact ⟨h, h1, by simpa using h2⟩
  · rintro ⟨h, h1, h2⟩; exact ⟨h, h1, by simpa using h2⟩
theorem has_false {l : List LkM} {tx : Int} (h : ¬ has l tx = true) : ∀ x ∈ l, x.tx ≠ tx := fun x hx e => h (has_iff.2 ⟨x, hx, e⟩)
theorem Okl.nil : Okl [] := ⟨by simp, by simp⟩
theorem Okl.sub {l m : List LkM} (h : Okl l) (hs : m.Sublist l) : Okl m := ⟨fun x hx => h.dom x (hs.subset hx), List.Nodup.sublist (hs.map _) h.once⟩
theorem once_eq : ∀ {l : List LkM}, (l.map LkM.tx).Nodup → ∀ a ∈ l, ∀ b ∈ l, a.tx = b.tx → a = b
  | [], _, a, ha, _, _, _ => by cases ha
  | x :: r, h, a, ha, b, hb, e => by
    rw [List.map_cons, List.nodup_cons] at h
    rcases List.mem_cons.1 ha with h1 | h1 <;> rcases List.mem_cons.1 hb with h2 | h2
    · rw [h1, h2]
    · exact absurd (List.mem_map.2 ⟨b, h2, by rw [← e, h1]⟩) h.1
    · exact absurd (List.mem_map.2 ⟨a, h1, by rw [e, h2]⟩) h.1
    · exact once_eq h.2 a h1 b h2 e
theorem Okl.perm {l m : List LkM} (h : Okl l) (hp : m.Perm l) : Okl m := ⟨fun x hx => h.dom x (hp.mem_iff.1 hx), (hp.map _).nodup_iff.2 h.once⟩
theorem Okl.cons {l : List LkM} {a : LkM} (h : Okl l) (ha : 0 ≤ a.tx ∧ a.tx < 12 ∧ 1 ≤ a.mode ∧ a.mode ≤ 5) (hn : has l a.tx = false) : Okl (a :: l) :=
  ⟨fun x hx => by
    rcases List.mem_cons.1 hx with rfl | hx
    · exact ha
    · exact h.dom x hx, by
    rw [List.map_cons, List.nodup_cons]
    refine ⟨fun hm => ?_, h.once⟩
    obtain ⟨x, hx, e⟩ := List.mem_map.1 hm
    rw [has_iff.2 ⟨x, hx, e⟩] at hn
    cases hn⟩
/-- A lock in its bounds. -/
def Dom (a : LkM) : Prop := 0 ≤ a.tx ∧ a.tx < 12 ∧ 1 ≤ a.mode ∧ a.mode ≤ 5
theorem wish_md {held : List LkM} {a : LkM} (h : Okl held) (ha : Dom a) : Md (wish held a) := by
  unfold wish
  cases hf : held.find? (fun h => h.tx == a.tx) with
  | none => exact ha.2.2
  | some x => exact join_md (h.dom x (List.mem_of_find?_eq_some hf)).2.2 ha.2.2
theorem can_iff {held : List LkM} {a : LkM} : can held a = true ↔ ∀ h ∈ held, h.tx ≠ a.tx → LockM.fitB (wish held a) h.mode = true := by
  unfold can
  rw [Bool.not_eq_true', ← Bool.not_eq_true, List.any_eq_true]
  constructor
  · intro h x hx hne
    cases hf : LockM.fitB (wish held a) x.mode with
    | true => rfl
    | false => exact absurd ⟨x, hx, by unfold bars; simp [hne, hf]⟩ h
  · rintro h ⟨x, hx, hb⟩
    unfold bars at hb
    simp only [Bool.and_eq_true, bne_iff_ne, ne_eq, Bool.not_eq_true'] at hb
    rw [h x hx hb.1] at hb
    cases hb.2
theorem can_false {held : List LkM} {a : LkM} : can held a = false ↔ ∃ h ∈ held, h.tx ≠ a.tx ∧ LockM.fitB (wish held a) h.mode = false := by
  constructor
  · intro h
    refine Classical.byContradiction fun hn => ?_
    rw [can_iff.2 (fun x hx hne => by
      cases hf : LockM.fitB (wish held a) x.mode with
      | true => rfl
      | false => exact absurd ⟨x, hx, hne, hf⟩ hn)] at h
    cases h
  · rintro ⟨x, hx, hne, hf⟩
    cases hc : can held a with
    | false => rfl
    | true => rw [can_iff.1 hc x hx hne] at hf; cases hf
/-- What is held once something has been given. -/
theorem give_mem {held : List LkM} {a : LkM} (hn : (held.map LkM.tx).Nodup) {x : LkM} : x ∈ give held a ↔ x = ⟨a.tx, wish held a⟩ ∨ (x ∈ held ∧ x.tx ≠ a.tx) := by
  unfold give
  split
  · rename_i hh
    obtain ⟨y, hy, hye⟩ := has_iff.1 hh
    have hlt : held.findIdx (fun h => h.tx == a.tx) < held.length := List.findIdx_lt_length_of_exists ⟨y, hy, by simpa using hye⟩
    have hat : (held[held.findIdx (fun h => h.tx == a.tx)]).tx = a.tx := by simpa using List.findIdx_getElem (w := hlt)
    generalize hk : held.findIdx (fun h => h.tx == a.tx) = k at *
    constructor
    · intro hx
      obtain ⟨i, hi, e⟩ := List.mem_iff_getElem.1 hx
      rw [List.getElem_set] at e
      rw [List.length_set] at hi
      split at e
      · exact Or.inl e.symm
      · rename_i hki
        subst e
        refine Or.inr ⟨List.getElem_mem _, fun e => hki ?_⟩
        have := List.pairwise_iff_getElem.1 (List.nodup_iff_pairwise_ne.1 hn)
        by_cases h1 : k < i
        · exact absurd (by rw [List.getElem_map, List.getElem_map]; exact hat.trans e.symm) (this k i (by simpa using hlt) (by simpa using hi) h1)
        · by_cases h2 : i < k
          · exact absurd (by rw [List.getElem_map, List.getElem_map]; exact e.trans hat.symm) (this i k (by simpa using hi) (by simpa using hlt) h2)
          · omega
    · rintro (rfl | ⟨h1, h2⟩)
      · exact List.mem_iff_getElem.2 ⟨k, by simpa using hlt, by simp⟩
      · obtain ⟨i, hi, rfl⟩ := List.mem_iff_getElem.1 h1
        refine List.mem_iff_getElem.2 ⟨i, by simpa using hi, ?_⟩
        rw [List.getElem_set, if_neg]
        rintro rfl
        exact h2 hat
  · rename_i hh
    rw [List.mem_append, List.mem_singleton]
    constructor
    · rintro (h | h)
      · exact Or.inr ⟨h, has_false hh x h⟩
      · exact Or.inl h
    · rintro (h | h)
      · exact Or.inr h
      · exact Or.inl h.1
theorem give_txs {held : List LkM} {a : LkM} (hh : has held a.tx = true) : (give held a).map LkM.tx = held.map LkM.tx := by
  unfold give
  rw [if_pos hh]
  obtain ⟨y, hy, hye⟩ := has_iff.1 hh
  have hlt : held.findIdx (fun h => h.tx == a.tx) < held.length := List.findIdx_lt_length_of_exists ⟨y, hy, by simpa using hye⟩
  have hat : (held[held.findIdx (fun h => h.tx == a.tx)]).tx = a.tx := by simpa using List.findIdx_getElem (w := hlt)
  rw [List.map_set]
  apply List.ext_getElem
  · simp
  · intro i h1 h2
    rw [List.getElem_set]
    split
    · rename_i e; subst e; simp [hat]
    · rfl
theorem give_once {held : List LkM} {a : LkM} (hn : (held.map LkM.tx).Nodup) : ((give held a).map LkM.tx).Nodup := by
  by_cases hh : has held a.tx = true
  · rw [give_txs hh]; exact hn
  · unfold give
    rw [if_neg hh, List.map_append, List.nodup_append]
    refine ⟨hn, by simp, fun x hx y hy e => ?_⟩
    obtain ⟨z, hz, rfl⟩ := List.mem_map.1 hx
    simp only [List.map_cons, List.map_nil, List.mem_singleton] at hy
    exact has_false hh z hz (e.trans hy)
theorem give_okl {held : List LkM} {a : LkM} (h : Okl held) (ha : Dom a) : Okl (give held a) := by
  refine ⟨fun x hx => ?_, give_once h.once⟩
  rcases (give_mem h.once).1 hx with rfl | ⟨h1, _⟩
  · exact ⟨ha.1, ha.2.1, wish_md h ha⟩
  · exact h.dom x h1
/-- All fit, said of members. -/
def Fits (l : List LkM) : Prop := ∀ a ∈ l, ∀ b ∈ l, a.tx ≠ b.tx → LockM.fitB a.mode b.mode = true
theorem fits_iff {l : List LkM} (h : Okl l) : (l.Pairwise fun a b => LockM.fitB a.mode b.mode = true) ↔ Fits l := by
  have hn := h.once
  rw [List.nodup_iff_pairwise_ne, List.pairwise_map] at hn
  constructor
  · intro hp a ha b hb hne
    obtain ⟨i, hi, rfl⟩ := List.mem_iff_getElem.1 ha
    obtain ⟨j, hj, rfl⟩ := List.mem_iff_getElem.1 hb
    by_cases h1 : i < j
    · exact List.pairwise_iff_getElem.1 hp i j hi hj h1
    · by_cases h2 : j < i
      · rw [fit_comm (h.dom _ ha).2.2 (h.dom _ hb).2.2]
        exact List.pairwise_iff_getElem.1 hp j i hj hi h2
      · obtain rfl : i = j := by omega
        exact absurd rfl hne
  · intro hf
    exact List.Pairwise.imp_of_mem (fun {a b} ha hb hne => hf a ha b hb hne) hn
theorem give_fits {held : List LkM} {a : LkM} (h : Okl held) (hf : Fits held) (ha : Dom a) (hc : can held a = true) : Fits (give held a) := by
  intro x hx y hy hne
  rcases (give_mem h.once).1 hx with rfl | ⟨h1, h2⟩ <;> rcases (give_mem h.once).1 hy with rfl | ⟨h3, h4⟩
  · exact absurd rfl hne
  · exact can_iff.1 hc y h3 h4
  · rw [fit_comm (h.dom x h1).2.2 (wish_md h ha)]
    exact can_iff.1 hc x h1 h2
  · exact hf x h1 y h3 hne
theorem find_once {l : List LkM} (hn : (l.map LkM.tx).Nodup) {tx : Int} {x : LkM} : l.find? (fun h => h.tx == tx) = some x ↔ x ∈ l ∧ x.tx = tx := by
  constructor
  · intro h
    exact ⟨List.mem_of_find?_eq_some h, by simpa using List.find?_some h⟩
  · rintro ⟨h1, h2⟩
    cases hf : l.find? (fun h => h.tx == tx) with
    | none =>
      rw [List.find?_eq_none] at hf
      exact absurd (by simpa using h2) (hf x h1)
    | some y =>
      have h3 := List.mem_of_find?_eq_some hf
      have h4 : y.tx = tx := by simpa using List.find?_some hf
      rw [once_eq hn x h1 y h3 (h2.trans h4.symm)]
/-- Who must wait waits on, when another gets more. -/
theorem still_waits {held : List LkM} {a q : LkM} (h : Okl held) (ha : Dom a) (hq : Dom q) (hne : q.tx ≠ a.tx) (hw : can held q = false) : can (give held a) q = false := by
  have e : wish (give held a) q = wish held q := by
    unfold wish
    cases hf : held.find? (fun h => h.tx == q.tx) with
    | none =>
      have : (give held a).find? (fun h => h.tx == q.tx) = none := by
        rw [List.find?_eq_none] at hf ⊢
        intro x hx
        rcases (give_mem h.once).1 hx with rfl | ⟨h1, _⟩
        · simpa using fun e => hne e.symm
        · exact hf x h1
      rw [this]
    | some x =>
      obtain ⟨h1, h2⟩ := (find_once h.once).1 hf
      rw [(find_once (give_once (a := a) h.once)).2 ⟨(give_mem h.once).2 (Or.inr ⟨h1, fun e => hne (h2.symm.trans e)⟩), h2⟩]
  obtain ⟨x, hx, hxq, hb⟩ := can_false.1 hw
  rw [can_false, e]
  by_cases hxa : x.tx = a.tx
  · refine ⟨⟨a.tx, wish held a⟩, (give_mem h.once).2 (Or.inl rfl), fun e => hne e.symm, ?_⟩
    cases hfb : LockM.fitB (wish held q) (wish held a) with
    | false => rfl
    | true =>
      have hwa : wish held a = LockM.joinZ x.mode a.mode := by
        unfold wish
        rw [(find_once h.once).2 ⟨hx, hxa⟩]
      rw [hwa] at hfb
      rw [fit_join (wish_md h hq) (h.dom x hx).2.2 ha.2.2 hfb] at hb
      cases hb
  · exact ⟨x, (give_mem h.once).2 (Or.inr ⟨hx, hxa⟩), hxq, hb⟩
theorem enqueue_perm (x : LiM) (a : LkM) : (enqueue x a).Perm (a :: x.queue) := by
  unfold enqueue
  split
  · refine (List.perm_middle).trans (List.Perm.cons a ?_)
    rw [List.take_append_drop]
  · exact List.perm_append_comm
theorem askItem_ok {x : LiM} {a : LkM} (h : Ok x) (ha : Dom a) (hw : has x.queue a.tx = false) : Ok (askItem x a).1 := by
  unfold askItem
  split
  · rename_i hc
    have hg := give_okl h.held ha
    refine ⟨hg, (fits_iff hg).2 (give_fits h.held ((fits_iff h.held).1 h.fit) ha hc.1), h.queue, fun q r e => ?_⟩
    have hqm : q ∈ x.queue := by rw [e]; exact List.mem_cons_self
    refine still_waits h.held ha (h.queue.dom q hqm) (fun e2 => ?_) (h.first q r e)
    rw [has_iff.2 ⟨q, hqm, e2⟩] at hw; cases hw
  · rename_i hc
    refine ⟨h.held, h.fit, (h.queue.cons ha hw).perm (enqueue_perm x a), fun q r e => ?_⟩
    have e : enqueue x a = q :: r := e
    show can x.held q = false
    by_cases hh : has x.held a.tx = true
    · have hcan : can x.held a = false := by
        cases hcc : can x.held a with
        | false => rfl
        | true => exact absurd ⟨hcc, Or.inl hh⟩ hc
      unfold enqueue at e
      rw [if_pos hh] at e
      cases hk : ahead x.held x.queue with
      | zero =>
        rw [hk] at e
        simp only [List.take_zero, List.nil_append, List.cons.injEq] at e
        rw [← e.1]; exact hcan
      | succ k =>
        rw [hk] at e
        cases hxq : x.queue with
        | nil => rw [hxq] at hk; cases hk
        | cons y t =>
          rw [hxq] at e
          simp only [List.take_succ_cons, List.cons_append, List.cons.injEq] at e
          rw [← e.1]; exact h.first y t hxq
    · unfold enqueue at e
      rw [if_neg hh] at e
      cases hxq : x.queue with
      | nil =>
        rw [hxq] at e
        simp only [List.nil_append, List.cons.injEq] at e
        cases hcc : can x.held q with
        | false => rfl
        | true => rw [← e.1] at hcc; exact absurd ⟨hcc, Or.inr hxq⟩ hc
      | cons y t =>
        rw [hxq] at e
        simp only [List.cons_append, List.cons.injEq] at e
        rw [← e.1]; exact h.first y t hxq
theorem askItem_item (x : LiM) (a : LkM) : (askItem x a).1.item = x.item := by unfold askItem; split <;> rfl
theorem askItem_some {x : LiM} {a : LkM} (h : x.held ≠ []) : (askItem x a).1.held ≠ [] := by
  unfold askItem
  split
  · show give x.held a ≠ []
    unfold give
    split
    · intro e
      have := congrArg List.length e
      rw [List.length_set] at this
      exact h (List.eq_nil_of_length_eq_zero this)
    · simp
  · exact h
theorem new_ok {a : LkM} (ha : Dom a) (item : Int) : Ok ⟨item, [a], []⟩ :=
  ⟨⟨fun x hx => by rw [List.mem_singleton] at hx; subst hx; exact ha, by simp⟩, by simp, Okl.nil, fun _ _ e => by cases e⟩
theorem askIn_low (item : Int) (a : LkM) : ∀ (t : List LiM) (y : Int), y < item → (∀ x ∈ t, y < x.item) → ∀ x ∈ (askIn item a t).1, y < x.item
  | [], y, hy, _, x, hx => by
    unfold askIn at hx
    rw [List.mem_singleton] at hx; subst hx; exact hy
  | z :: r, y, hy, h, x, hx => by
    unfold askIn at hx
    split at hx
    · rcases List.mem_cons.1 hx with rfl | hx
      · exact h _ List.mem_cons_self
      · exact askIn_low item a r y hy (fun u hu => h u (List.mem_cons_of_mem _ hu)) x hx
    · split at hx
      · rcases List.mem_cons.1 hx with rfl | hx
        · rw [askItem_item]; exact h _ List.mem_cons_self
        · exact h x (List.mem_cons_of_mem _ hx)
      · rcases List.mem_cons.1 hx with rfl | hx
        · exact hy
        · exact h x hx
theorem Good.tail {x : LiM} {r : List LiM} (h : Good (x :: r)) : Good r :=
  ⟨fun y hy => h.items y (List.mem_cons_of_mem _ hy), (List.pairwise_cons.1 h.rise).2, fun y hy => h.some_ y (List.mem_cons_of_mem _ hy), fun y hy => h.ok y (List.mem_cons_of_mem _ hy)⟩
theorem Good.cons {x : LiM} {r : List LiM} (h : Good r) (h1 : 0 ≤ x.item ∧ x.item < 20) (h2 : ∀ y ∈ r, x.item < y.item) (h3 : x.held ≠ []) (h4 : Ok x) : Good (x :: r) :=
  ⟨fun y hy => (List.mem_cons.1 hy).elim (fun e => e ▸ h1) (h.items y), List.pairwise_cons.2 ⟨h2, h.rise⟩, fun y hy => (List.mem_cons.1 hy).elim (fun e => e ▸ h3) (h.some_ y), fun y hy => (List.mem_cons.1 hy).elim (fun e => e ▸ h4) (h.ok y)⟩
theorem ask_good {item : Int} {a : LkM} (ha : Dom a) (hi : 0 ≤ item ∧ item < 20) : ∀ {t : List LiM}, Good t → waiting t a.tx = false → Good (askIn item a t).1
  | [], _, _ => Good.nil.cons hi (by simp) (by simp) (new_ok ha item)
  | x :: r, h, hw => by
    unfold waiting at hw
    rw [List.any_cons, Bool.or_eq_false_iff] at hw
    unfold askIn
    split
    · rename_i h1
      refine (ask_good ha hi h.tail hw.2).cons (h.items x List.mem_cons_self) ?_ (h.some_ x List.mem_cons_self) (h.ok x List.mem_cons_self)
      exact askIn_low item a r x.item h1 (List.pairwise_cons.1 h.rise).1
    · split
      · refine h.tail.cons ?_ ?_ (askItem_some (h.some_ x List.mem_cons_self)) (askItem_ok (h.ok x List.mem_cons_self) ha hw.1)
        · rw [askItem_item]; exact h.items x List.mem_cons_self
        · rw [askItem_item]; exact (List.pairwise_cons.1 h.rise).1
      · rename_i h1 h2
        refine h.cons hi (fun y hy => ?_) (by simp) (new_ok ha item)
        show item < y.item
        rcases List.mem_cons.1 hy with rfl | hy
        · omega
        · have := (List.pairwise_cons.1 h.rise).1 y hy; omega
theorem without_mem {l : List LkM} {tx : Int} {x : LkM} : x ∈ without l tx ↔ x ∈ l ∧ x.tx ≠ tx := by
  unfold without; rw [List.mem_filter]; simp
/-- What is served: all stays right, and who had been dropped has nothing. -/
theorem serve_ok : ∀ (f : Nat) (held queue : List LkM) (g : List Int), queue.length ≤ f → Okl held → Fits held → Okl queue →
    ((Okl (serve f held queue g).1 ∧ Fits (serve f held queue g).1) ∧ (Okl (serve f held queue g).2.1 ∧ (∀ a r, (serve f held queue g).2.1 = a :: r → can (serve f held queue g).1 a = false)) ∧
      (∀ x ∈ (serve f held queue g).1, (∃ y ∈ held, y.tx = x.tx) ∨ ∃ y ∈ queue, y.tx = x.tx) ∧ (∀ x ∈ (serve f held queue g).2.1, x ∈ queue) ∧ (∀ z ∈ (serve f held queue g).2.2, z ∈ g ∨ ∃ y ∈ queue, y.tx = z))
  | 0, held, queue, g, hl, h1, h2, h3 => by
    have : queue = [] := List.eq_nil_of_length_eq_zero (by omega)
    subst this
    exact ⟨⟨h1, h2⟩, ⟨h3, fun a r e => by cases e⟩, fun x hx => Or.inl ⟨x, hx, rfl⟩, fun x hx => hx, fun z hz => Or.inl hz⟩
  | f + 1, held, [], g, _, h1, h2, h3 => ⟨⟨h1, h2⟩, ⟨h3, fun a r e => by cases e⟩, fun x hx => Or.inl ⟨x, hx, rfl⟩, fun x hx => hx, fun z hz => Or.inl hz⟩
  | f + 1, held, a :: r, g, hl, h1, h2, h3 => by
    have hu : serve (f + 1) held (a :: r) g = if can held a = true then serve f (give held a) r (g ++ [a.tx]) else (held, a :: r, g) := rfl
    rw [hu]
    · have ha := h3.dom a List.mem_cons_self
      split
      · rename_i hc
        obtain ⟨i1, i2, i3, i4, i5⟩ := serve_ok f (give held a) r (g ++ [a.tx]) (by simpa using hl) (give_okl h1 ha) (give_fits h1 h2 ha hc) (h3.sub (List.sublist_cons_self _ _))
        refine ⟨i1, i2, fun x hx => ?_, fun x hx => List.mem_cons_of_mem _ (i4 x hx), fun z hz => ?_⟩
        · rcases i3 x hx with ⟨y, hy, e⟩ | ⟨y, hy, e⟩
          · rcases (give_mem h1.once).1 hy with rfl | ⟨h4, _⟩
            · exact Or.inr ⟨a, List.mem_cons_self, e⟩
            · exact Or.inl ⟨y, h4, e⟩
          · exact Or.inr ⟨y, List.mem_cons_of_mem _ hy, e⟩
        · rcases i5 z hz with h4 | ⟨y, hy, e⟩
          · rcases List.mem_append.1 h4 with h4 | h4
            · exact Or.inl h4
            · rw [List.mem_singleton] at h4
              exact Or.inr ⟨a, List.mem_cons_self, h4.symm⟩
          · exact Or.inr ⟨y, List.mem_cons_of_mem _ hy, e⟩
      · rename_i hc
        refine ⟨⟨h1, h2⟩, ⟨h3, fun q s e => ?_⟩, fun x hx => Or.inl ⟨x, hx, rfl⟩, fun x hx => hx, fun z hz => Or.inl hz⟩
        injection e with e1 _
        rw [← e1]
        simpa using hc
theorem dropItem_ok {x : LiM} (h : Ok x) (tx : Int) (g : List Int) : Ok (dropItem x tx g).1 ∧ (dropItem x tx g).1.item = x.item ∧
    (∀ y ∈ (dropItem x tx g).1.held ++ (dropItem x tx g).1.queue, y.tx ≠ tx ∧ ∃ z ∈ x.held ++ x.queue, z.tx = y.tx) ∧ (∀ z ∈ (dropItem x tx g).2, z ∈ g ∨ z ≠ tx) := by
  have h1 : Okl (without x.held tx) := h.held.sub List.filter_sublist
  have h2 : Okl (without x.queue tx) := h.queue.sub List.filter_sublist
  have hf : Fits (without x.held tx) := fun a ha b hb hne => (fits_iff h.held).1 h.fit a (without_mem.1 ha).1 b (without_mem.1 hb).1 hne
  obtain ⟨⟨i1, i2⟩, ⟨i3, i4⟩, i5, i6, i7⟩ := serve_ok _ _ _ g (Nat.le_refl _) h1 hf h2
  refine ⟨⟨i1, (fits_iff i1).2 i2, i3, i4⟩, rfl, fun y hy => ?_, fun z hz => ?_⟩
  · rcases List.mem_append.1 hy with hy | hy
    · rcases i5 y hy with ⟨z, hz, e⟩ | ⟨z, hz, e⟩
      · obtain ⟨h3, h4⟩ := without_mem.1 hz
        exact ⟨e ▸ h4, z, List.mem_append_left _ h3, e⟩
      · obtain ⟨h3, h4⟩ := without_mem.1 hz
        exact ⟨e ▸ h4, z, List.mem_append_right _ h3, e⟩
    · obtain ⟨h3, h4⟩ := without_mem.1 (i6 y hy)
      exact ⟨h4, y, List.mem_append_right _ h3, rfl⟩
  · rcases i7 z hz with h3 | ⟨y, hy, e⟩
    · exact Or.inl h3
    · exact Or.inr (e ▸ (without_mem.1 hy).2)
/-- Is tx named in the table? -/
def named (t : List LiM) (tx : Int) : Prop := ∃ x ∈ t, ∃ z ∈ x.held ++ x.queue, z.tx = tx
theorem dropGo_ok (tx : Int) : ∀ (r out : List LiM) (g : List Int), Good (out ++ r) → (∀ x ∈ out, ∀ y ∈ x.held ++ x.queue, y.tx ≠ tx) → tx ∉ g →
    Good (dropGo tx r out g).1 ∧ (∀ x ∈ (dropGo tx r out g).1, ∀ y ∈ x.held ++ x.queue, y.tx ≠ tx) ∧ tx ∉ (dropGo tx r out g).2 ∧ (∀ z, named (dropGo tx r out g).1 z → named (out ++ r) z)
  | [], out, g, h1, h2, h3 => by
    rw [List.append_nil] at h1
    exact ⟨h1, h2, h3, fun z hz => by rw [List.append_nil]; exact hz⟩
  | x :: r, out, g, h1, h2, h3 => by
    have hx := h1.ok x (by simp)
    obtain ⟨i1, i2, i3, i4⟩ := dropItem_ok hx tx g
    have hg : tx ∉ (dropItem x tx g).2 := fun h => (i4 tx h).elim h3 (fun h => h rfl)
    unfold dropGo
    obtain ⟨s, hs⟩ : ∃ s, dropItem x tx g = s := ⟨_, rfl⟩
    rw [hs] at i1 i2 i3 hg ⊢
    have hrise := h1.rise
    rw [List.pairwise_append, List.pairwise_cons] at hrise
    by_cases he : s.1.held = []
    · rw [if_pos he]
      obtain ⟨j1, j2, j3, j4⟩ := dropGo_ok tx r out s.2 ⟨fun y hy => h1.items y (by simp at hy ⊢; rcases hy with h | h; exact Or.inl h; exact Or.inr (Or.inr h)), by
        rw [List.pairwise_append]; exact ⟨hrise.1, hrise.2.1.2, fun a ha b hb => hrise.2.2 a ha b (List.mem_cons_of_mem _ hb)⟩, fun y hy => h1.some_ y (by simp at hy ⊢; rcases hy with h | h; exact Or.inl h; exact Or.inr (Or.inr h)), fun y hy => h1.ok y (by simp at hy ⊢; rcases hy with h | h; exact Or.inl h; exact Or.inr (Or.inr h))⟩ h2 hg
      refine ⟨j1, j2, j3, fun z hz => ?_⟩
      obtain ⟨y, hy, u, hu, e⟩ := j4 z hz
      exact ⟨y, by simp at hy ⊢; rcases hy with h | h; exact Or.inl h; exact Or.inr (Or.inr h), u, hu, e⟩
    · rw [if_neg he]
      have hG : Good ((out ++ [s.1]) ++ r) := by
        refine ⟨fun y hy => ?_, ?_, fun y hy => ?_, fun y hy => ?_⟩
        · simp only [List.append_assoc, List.mem_append, List.mem_cons, List.not_mem_nil, or_false] at hy
          rcases hy with h | h | h
          · exact h1.items y (by simp [h])
          · rw [h, i2]; exact h1.items x (by simp)
          · exact h1.items y (by simp [h])
        · rw [List.append_assoc, List.pairwise_append, List.singleton_append, List.pairwise_cons]
          refine ⟨hrise.1, ⟨fun b hb => by rw [i2]; exact hrise.2.1.1 b hb, hrise.2.1.2⟩, fun a ha b hb => ?_⟩
          rcases List.mem_cons.1 hb with rfl | hb
          · rw [i2]; exact hrise.2.2 a ha x List.mem_cons_self
          · exact hrise.2.2 a ha b (List.mem_cons_of_mem _ hb)
        · simp only [List.append_assoc, List.mem_append, List.mem_cons, List.not_mem_nil, or_false] at hy
          rcases hy with h | h | h
          · exact h1.some_ y (by simp [h])
          · rw [h]; exact he
          · exact h1.some_ y (by simp [h])
        · simp only [List.append_assoc, List.mem_append, List.mem_cons, List.not_mem_nil, or_false] at hy
          rcases hy with h | h | h
          · exact h1.ok y (by simp [h])
          · rw [h]; exact i1
          · exact h1.ok y (by simp [h])
      obtain ⟨j1, j2, j3, j4⟩ := dropGo_ok tx r (out ++ [s.1]) s.2 hG (fun y hy => by
        rcases List.mem_append.1 hy with hy | hy
        · exact h2 y hy
        · rw [List.mem_singleton] at hy; subst hy; exact fun u hu => (i3 u hu).1) hg
      refine ⟨j1, j2, j3, fun z hz => ?_⟩
      obtain ⟨y, hy, u, hu, e⟩ := j4 z hz
      simp only [List.append_assoc, List.mem_append, List.mem_cons, List.not_mem_nil, or_false] at hy
      rcases hy with h | h | h
      · exact ⟨y, by simp [h], u, hu, e⟩
      · subst h
        obtain ⟨v, hv, e2⟩ := (i3 u hu).2
        exact ⟨x, by simp, v, hv, e2.trans e⟩
      · exact ⟨y, by simp [h], u, hu, e⟩
theorem drop_ok {t : List LiM} (h : Good t) (tx : Int) : Good (drop t tx).1 ∧ (∀ x ∈ (drop t tx).1, ∀ y ∈ x.held ++ x.queue, y.tx ≠ tx) ∧ tx ∉ (drop t tx).2 ∧ (∀ z, named (drop t tx).1 z → named t z) :=
  dropGo_ok tx t [] [] h (by simp) (by simp)
/-- Where nobody is named the table is empty. -/
theorem Good.empty {t : List LiM} (h : Good t) (hn : ∀ tx : Int, 0 ≤ tx → tx < 12 → ¬ named t tx) : t = [] := by
  cases t with
  | nil => rfl
  | cons x r =>
    exfalso
    cases hx : x.held with
    | nil => exact h.some_ x List.mem_cons_self hx
    | cons a s =>
      have := (h.ok x List.mem_cons_self).held.dom a (by rw [hx]; exact List.mem_cons_self)
      exact hn a.tx this.1 this.2.1 ⟨x, List.mem_cons_self, a, by rw [hx]; simp, rfl⟩
end LkM
end
section
open Go.RowKit Go.Lib

/-- They stand where a slice begins. -/
def LksAt (w : World) (ao : Option Addr) (l : List LkM) : Prop :=
  l = [] ∨ ∃ b off, ao = some ⟨b, off, none⟩ ∧ b < w.heap.size ∧ ∀ k (h : k < l.length), w.cell? ⟨b, off + k * 2, none⟩ = some (.int .i64 l[k].tx) ∧ w.cell? ⟨b, off + k * 2 + 1, none⟩ = some (.int .i64 l[k].mode)
theorem LksAt.below {B : Nat} {w w' : World} {ao : Option Addr} {l : List LkM} (h : LksAt w ao l) (hb : Below B w w') (hB : w.heap.size ≤ B) : LksAt w' ao l := by
  rcases h with h | ⟨b, off, h1, h2, h3⟩
  · exact Or.inl h
  · exact Or.inr ⟨b, off, h1, Nat.lt_of_lt_of_le h2 hb.size, fun k hk => ⟨(hb.cell (p := ⟨b, off + k * 2, none⟩) (Nat.lt_of_lt_of_le h2 hB)).trans (h3 k hk).1, (hb.cell (p := ⟨b, off + k * 2 + 1, none⟩) (Nat.lt_of_lt_of_le h2 hB)).trans (h3 k hk).2⟩⟩
def lkVals (l : List LkM) : List Value := l.flatMap fun d => [.int .i64 d.tx, .int .i64 d.mode]
theorem lkVals_len (l : List LkM) : (lkVals l).length = l.length * 2 := by
  induction l with
  | nil => rfl
  | cons v r ih => simp only [lkVals, List.flatMap_cons, List.length_append, List.length_cons, List.length_nil] at ih ⊢; omega
theorem lkVals_append (a b : List LkM) : lkVals (a ++ b) = lkVals a ++ lkVals b := by simp [lkVals]
theorem lkVals_one (l : List LkM) : ∀ u ∈ lkVals l, u.oneCell' = true := by
  intro u hu
  simp only [lkVals, List.mem_flatMap] at hu
  obtain ⟨o, _, h⟩ := hu
  simp at h
  rcases h with rfl | rfl <;> rfl
theorem lkVals_at (l : List LkM) : ∀ (k : Nat) (h : k < l.length), (lkVals l)[k * 2]? = some (.int .i64 l[k].tx) ∧ (lkVals l)[k * 2 + 1]? = some (.int .i64 l[k].mode) := by
  induction l with
  | nil => intro k h; simp at h
  | cons v r ih =>
    intro k h
    cases k with
    | zero => exact ⟨rfl, rfl⟩
    | succ k =>
      have h2 := ih k (by simpa using h)
      have e1 : (k + 1) * 2 = k * 2 + 1 + 1 := by omega
      rw [e1]
      simp only [lkVals, List.flatMap_cons, List.cons_append, List.nil_append, List.getElem?_cons_succ, List.getElem_cons_succ]
      exact h2
theorem LksAt.own {w : World} {base n : Nat} {v : Value} {l : List LkM} (h : w.ownsRow base 137 2 v n (lkVals l)) : ∃ ao cap, v = .slice ao l.length cap ∧ n = l.length ∧ LksAt w ao l ∧ (ao = none → cap = 0) ∧ l.length ≤ cap := by
  have hl : n = l.length := by have := h.1; rw [lkVals_len] at this; omega
  rcases h.2 with ⟨h1, h2⟩ | ⟨g, cap, cur, h1, h2, h3, h4, _⟩
  · have : l = [] := List.eq_nil_of_length_eq_zero (by omega)
    subst this
    exact ⟨none, 0, h1, hl, Or.inl rfl, fun _ => rfl, Nat.le_refl _⟩
  · subst hl
    refine ⟨_, cap, h1, rfl, Or.inr ⟨g, 0, rfl, (Array.getElem?_eq_some_iff.1 h3).1, fun k hk => ?_⟩, (fun h => by cases h), h4⟩
    have ho := h
    rw [h1] at ho
    obtain ⟨c0, c1⟩ := lkVals_at l k hk
    rw [Nat.zero_add, ho.cellAt (k * 2) (by omega), ho.cellAt (k * 2 + 1) (by omega)]
    exact ⟨c0, c1⟩
end
section
open Go.RowKit Go.Lib

theorem Tryz.infoLk : (Tryz.prog.info? 137).map (fun i => (i.zero, i.size, i.bytes)) = some (some (.agg #[.int .i64 0, .int .i64 0]), 2, 16) := by kernel_rfl
theorem Tryz.infoLi : (Tryz.prog.info? 134).map (fun i => (i.zero, i.size, i.bytes)) = some (some (.agg #[.int .i64 0, .slice none 0 0, .slice none 0 0]), 3, 56) := by kernel_rfl
end
end Go.Proofs.YtnnkejolfhhmlaaGreat
