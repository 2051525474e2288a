/- A page as bytes, in plain Lean: what is written is read; what is read is written as just those bytes. -/
import Derived.Test.YtnolidjjeknmmaaLeafKeepsM
namespace Go.Proofs.Ytnolidjjeknmmaa
open Go.RowKit Go.Lib

def LeafM.enc (s : Bool × ByteArray) : List UInt8 := if s.1 then CodeM.putNat (s.2.size + 1) ++ s.2.data.toList else CodeM.putNat 0
def LeafM.body (ls : List (Bool × ByteArray)) : List UInt8 := ls.flatMap LeafM.enc
def LeafM.text (ls : List (Bool × ByteArray)) : List UInt8 := CodeM.putNat ls.length ++ LeafM.body ls

/-- One slot off a text. -/
def LeafM.step (l : List UInt8) : Option ((Bool × ByteArray) × List UInt8) :=
  if (CodeM.getNat l).2.2 ≠ 0 ∨ 513 < (CodeM.getNat l).1 ∨ (0 < (CodeM.getNat l).1 ∧ l.length - (CodeM.getNat l).2.1 < (CodeM.getNat l).1 - 1) then none
  else if 0 < (CodeM.getNat l).1 then some ((true, ⟨((l.drop (CodeM.getNat l).2.1).take ((CodeM.getNat l).1 - 1)).toArray⟩), (l.drop (CodeM.getNat l).2.1).drop ((CodeM.getNat l).1 - 1))
  else some ((false, ⟨#[]⟩), l.drop (CodeM.getNat l).2.1)
def LeafM.readF : Nat → List (Bool × ByteArray) → List UInt8 → Option (List (Bool × ByteArray) × List UInt8)
  | 0, acc, l => some (acc, l)
  | n + 1, acc, l => match LeafM.step l with
    | none => none
    | some (s, r) => LeafM.readF n (acc ++ [s]) r
def LeafM.read (l : List UInt8) : Option (List (Bool × ByteArray)) :=
  if (CodeM.getNat l).2.2 ≠ 0 ∨ 40 < (CodeM.getNat l).1 then none
  else match LeafM.readF (CodeM.getNat l).1 [] (l.drop (CodeM.getNat l).2.1) with
    | none => none
    | some (ls, r) => if r ≠ [] ∨ LeafM.check ls ≠ 0 then none else some ls

theorem LeafM.enc_len (s : Bool × ByteArray) : (LeafM.enc s).length = LeafM.slot s := by
  unfold LeafM.enc LeafM.slot
  split
  · rw [List.length_append]; rfl
  · rfl
theorem LeafM.text_len (ls : List (Bool × ByteArray)) : (LeafM.text ls).length = LeafM.size ls := by
  have h : (LeafM.body ls).length = LeafM.sum ls := by
    unfold LeafM.body
    induction ls with
    | nil => rfl
    | cons s l ih => rw [List.flatMap_cons, List.length_append, ih, LeafM.enc_len]; rfl
  rw [LeafM.text, List.length_append, h]; rfl

theorem LeafM.step_enc (s : Bool × ByteArray) (more : List UInt8) (h1 : s.2.size ≤ 512) (h2 : s.1 = false → s = (false, ⟨#[]⟩)) : LeafM.step (LeafM.enc s ++ more) = some (s, more) := by
  obtain ⟨u, t⟩ := s
  cases u with
  | true =>
    simp only at h1
    have hg := CodeM.get_put (t.size + 1) (t.data.toList ++ more) (by omega)
    have e : LeafM.enc (true, t) ++ more = CodeM.putNat (t.size + 1) ++ (t.data.toList ++ more) := by simp [LeafM.enc]
    have hl : t.data.toList.length = t.size := rfl
    unfold LeafM.step
    rw [e, hg]
    simp only
    rw [if_neg (by simp; omega), if_pos (by omega), List.drop_left]
    rw [Nat.add_sub_cancel, ← hl, List.take_left, List.drop_left]
  | false =>
    obtain ⟨-, rfl⟩ : False = False ∧ t = ⟨#[]⟩ := ⟨rfl, (Prod.mk.inj (h2 rfl)).2⟩
    have hg := CodeM.get_put 0 more (by omega)
    have e : LeafM.enc (false, ⟨#[]⟩) ++ more = CodeM.putNat 0 ++ more := by simp [LeafM.enc]
    unfold LeafM.step
    rw [e, hg]
    simp only
    rw [if_neg (by simp), if_neg (by omega), List.drop_left]

theorem LeafM.readF_body (more : List UInt8) : ∀ (ls acc : List (Bool × ByteArray)), (∀ s ∈ ls, s.2.size ≤ 512 ∧ (s.1 = false → s = (false, ⟨#[]⟩))) →
    LeafM.readF ls.length acc (LeafM.body ls ++ more) = some (acc ++ ls, more)
  | [], acc, _ => by simp [LeafM.readF, LeafM.body]
  | s :: l, acc, h => by
    have h0 := h s (by simp)
    rw [LeafM.body, List.flatMap_cons, List.append_assoc, List.length_cons, LeafM.readF, LeafM.step_enc s _ h0.1 h0.2]
    have := LeafM.readF_body more l (acc ++ [s]) (fun x hx => h x (by simp [hx]))
    simp only
    rw [show List.flatMap LeafM.enc l = LeafM.body l from rfl, this, List.append_assoc]; rfl

theorem LeafM.slot_le_sum {s : Bool × ByteArray} : ∀ {ls : List (Bool × ByteArray)}, s ∈ ls → LeafM.slot s ≤ LeafM.sum ls
  | x :: l, h => by
    simp only [LeafM.sum]
    rcases List.mem_cons.1 h with rfl | h
    · omega
    · have := LeafM.slot_le_sum h; omega

/-- What is written is read. -/
theorem LeafM.read_text {ls : List (Bool × ByteArray)} (hc : LeafM.check ls = 0) : LeafM.read (LeafM.text ls) = some ls := by
  obtain ⟨c1, c2, c3, c4⟩ := LeafM.check_le hc
  have hg := CodeM.get_put ls.length (LeafM.body ls) (by omega)
  have hr := LeafM.readF_body [] ls [] (fun s hs => ⟨by
    have h1 := LeafM.slot_le_sum hs
    unfold LeafM.size at c4
    by_cases hu : s.1 = true
    · unfold LeafM.slot at h1; rw [if_pos hu] at h1; omega
    · have hb := List.any_eq_false.1 c2 s hs
      unfold LeafM.bad at hb
      simp [hu] at hb
      rw [hb]; decide, fun hu => by
    obtain ⟨j, hj, rfl⟩ := List.getElem_of_mem hs
    exact LeafM.unused_empty hc j hj hu⟩)
  unfold LeafM.read LeafM.text
  rw [hg]
  simp only
  rw [if_neg (by simp; omega), List.drop_left]
  rw [List.append_nil] at hr
  rw [hr]
  simp [hc]

theorem LeafM.step_ok {l r : List UInt8} {s : Bool × ByteArray} (h : LeafM.step l = some (s, r)) : l = LeafM.enc s ++ r := by
  unfold LeafM.step at h
  generalize hx : CodeM.getNat l = x at h
  obtain ⟨n, j, e⟩ := x
  simp only at h
  split at h
  · simp at h
  · rename_i hn
    have he : e = 0 := by omega
    subst he
    obtain ⟨h1, h2, h3, h4⟩ := CodeM.get_ok hx
    split at h
    · rename_i h0
      have hh := Option.some.inj h
      obtain ⟨rfl, rfl⟩ := Prod.mk.inj hh
      have hlen : ((l.drop j).take (n - 1)).length = n - 1 := by simp; omega
      have es : (ByteArray.mk ((l.drop j).take (n - 1)).toArray).size = n - 1 := hlen
      unfold LeafM.enc
      rw [if_pos rfl]
      simp only
      rw [es, show n - 1 + 1 = n by omega, h4, List.append_assoc, List.take_append_drop, List.take_append_drop]
    · rename_i h0
      have hh := Option.some.inj h
      obtain ⟨rfl, rfl⟩ := Prod.mk.inj hh
      unfold LeafM.enc
      rw [if_neg (by simp), show (0 : Nat) = n by omega, h4, List.take_append_drop]
theorem LeafM.readF_ok : ∀ (n : Nat) (acc ls : List (Bool × ByteArray)) (l r : List UInt8), LeafM.readF n acc l = some (ls, r) → ∃ ms, ms.length = n ∧ ls = acc ++ ms ∧ l = LeafM.body ms ++ r
  | 0, acc, ls, l, r, h => by
    have hh := Option.some.inj h
    obtain ⟨rfl, rfl⟩ := Prod.mk.inj hh
    exact ⟨[], rfl, by simp, by simp [LeafM.body]⟩
  | n + 1, acc, ls, l, r, h => by
    unfold LeafM.readF at h
    cases hs : LeafM.step l with
    | none => rw [hs] at h; simp at h
    | some x =>
      obtain ⟨s, r1⟩ := x
      rw [hs] at h
      obtain ⟨ms, h1, h2, h3⟩ := LeafM.readF_ok n (acc ++ [s]) ls r1 r h
      refine ⟨s :: ms, by simp [h1], by rw [h2]; simp, ?_⟩
      rw [LeafM.step_ok hs, h3]; simp [LeafM.body]
/-- What is read is written as just those bytes. -/
theorem LeafM.read_ok {l : List UInt8} {ls : List (Bool × ByteArray)} (h : LeafM.read l = some ls) : LeafM.check ls = 0 ∧ LeafM.text ls = l := by
  unfold LeafM.read at h
  generalize hx : CodeM.getNat l = x at h
  obtain ⟨n, j, e⟩ := x
  simp only at h
  split at h
  · simp at h
  · rename_i hn
    have he : e = 0 := by omega
    subst he
    obtain ⟨h1, h2, h3, h4⟩ := CodeM.get_ok hx
    cases hr : LeafM.readF n [] (l.drop j) with
    | none => rw [hr] at h; simp at h
    | some x =>
      obtain ⟨ms, r⟩ := x
      rw [hr] at h
      simp only at h
      split at h
      · simp at h
      · rename_i hm
        have hh := Option.some.inj h
        subst hh
        have hm1 : r = [] := Classical.byContradiction fun h => hm (Or.inl h)
        have hm2 : LeafM.check ms = 0 := Classical.byContradiction fun h => hm (Or.inr h)
        subst hm1
        obtain ⟨ns, k1, k2, k3⟩ := LeafM.readF_ok n [] ms _ _ hr
        rw [List.nil_append] at k2
        subst k2
        refine ⟨hm2, ?_⟩
        rw [LeafM.text, k1, h4]
        rw [List.append_nil] at k3
        rw [← k3, List.take_append_drop]
end Go.Proofs.Ytnolidjjeknmmaa
