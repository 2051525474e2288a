/- What LeafOwn's calls leave, in one shape: a page's row in memory not older than a place. -/
import Derived.Test.YtnolidjjeknmmaaSlotW
import Derived.Test.YtnolidjjeknmmaaLeafText
namespace Go.Proofs.Ytnolidjjeknmmaa
open Go.RowKit Go.Lib

/-- Slots ls under the slice at a, whose block is not older than B. -/
structure SlGot (w : World) (B : Nat) (a : Option Addr) (c : Nat) (ls : List (Bool × ByteArray)) : Prop where
  at_ : LeafM.At w a ls
  nil : a = none → c = 0
  old : ∀ b off r, a = some ⟨b, off, r⟩ → B ≤ b
  len : ls.length ≤ 41
theorem SlGot.after {w w' : World} {B : Nat} {a : Option Addr} {c : Nat} {ls : List (Bool × ByteArray)} (h : SlGot w B a c ls) (hb : Below w.heap.size w w') : SlGot w' B a c ls := ⟨h.at_.below hb (Nat.le_refl _), h.nil, h.old, h.len⟩
theorem SlGot.alloc {w : World} {B : Nat} {a : Option Addr} {c : Nat} {ls : List (Bool × ByteArray)} (h : SlGot w B a c ls) (o : Obj) : SlGot (w.alloc o) B a c ls := h.after ((Below.refl _ _).alloc (Nat.le_refl _) o)
theorem SlGot.grown {w w' : World} {B g : Nat} {a : Option Addr} {c : Nat} {ls : List (Bool × ByteArray)} (h : SlGot w B a c ls) (hg : w.grownBy w' (some g)) (hlt : g < B) : SlGot w' B a c ls := by
  refine ⟨?_, h.nil, h.old, h.len⟩
  rcases h.at_ with h1 | ⟨b, off, h1, h2, h3⟩
  · exact Or.inl h1
  · have hb := h.old b off none h1
    have hne : some b ≠ some g := fun e => by injection e with e; omega
    exact Or.inr ⟨b, off, h1, Nat.lt_of_lt_of_le h2 hg.size, fun k hk => ⟨hg.cell (h3 k hk).1 hne, hg.cell (h3 k hk).2 hne⟩⟩
theorem SlGot.ofOwn {w : World} {B : Nat} {ls : List (Bool × ByteArray)} {v : Value} (h : w.ownsRow B 54 2 v ls.length (LeafM.cells ls)) (hl : ls.length ≤ 41) : ∃ a c, v = .slice a ls.length c ∧ SlGot w B a c ls := by
  rcases h.2 with ⟨rfl, h0⟩ | ⟨g, cap, cur, rfl, h1, h2, _⟩
  · have e : ls = [] := List.eq_nil_of_length_eq_zero h0
    subst e
    exact ⟨none, 0, rfl, Or.inl rfl, fun _ => rfl, fun _ _ _ h => (by cases h), by simp⟩
  · refine ⟨some ⟨g, 0, none⟩, cap, rfl, Or.inr ⟨g, 0, rfl, lt_of_block h2, LeafM.owns_slots h rfl⟩, fun e => (by cases e), fun b off r e => ?_, hl⟩
    injection e with e
    injection e with e1
    omega

def GotPage (w : World) (e : Ending) (w' : World) (f : Value → Value) : Prop :=
  (∃ a c ls, e = .returned (f (.slice a ls.length c)) ∧ SlGot w' w.heap.size a c ls) ∧ Below w.heap.size w w'

theorem LeafM.putOut_len (ls : List (Bool × ByteArray)) (t : ByteArray) (h : LeafM.putErr ls t = 0) : (LeafM.putOut ls t).length ≤ 41 := by
  unfold LeafM.putErr at h
  split at h
  · omega
  · split at h
    · omega
    · split at h
      · omega
      · omega

def LeafM.PutGot (w : World) (e : Ending) (w' : World) : Prop :=
  (∃ (a : Option Addr) (c : Nat) (ls : List (Bool × ByteArray)) (i er : Int), e = .returned (.tuple #[.agg #[.slice a ls.length c], .int .i64 i, .int .i64 er]) ∧ SlGot w' w.heap.size a c ls) ∧ Below w.heap.size w w'
theorem put_got (ls : List (Bool × ByteArray)) (ao : Option Addr) (cap : Nat) (t : ByteArray) (w : World) (h : LeafM.At w ao ls) (hf : LeafM.Fits ls) (hnil : ao = none → cap = 0) :
    Calls Try.prog 27 #[.agg #[.slice ao ls.length cap], .string t] w (LeafM.PutGot w) := by
  refine (put_any ls ao cap t w h hf hnil).mono ?_
  rintro e w' ⟨hb, ⟨_, rfl⟩ | ⟨h0, g, c, rfl, hg, ho⟩⟩
  · exact ⟨⟨none, 0, [], _, _, rfl, Or.inl rfl, fun _ => rfl, fun _ _ _ h => (by cases h), by simp⟩, hb⟩
  · obtain ⟨a, c', hv, hs⟩ := SlGot.ofOwn ho (LeafM.putOut_len ls t h0)
    simp only [Value.slice.injEq, true_and] at hv
    obtain ⟨rfl, rfl⟩ := hv
    exact ⟨⟨_, _, LeafM.putOut ls t, _, _, rfl, hs⟩, hb⟩

def LeafM.DropGot (w : World) (e : Ending) (w' : World) : Prop :=
  (∃ (a : Option Addr) (c : Nat) (ls : List (Bool × ByteArray)) (er : Int), e = .returned (.tuple #[.agg #[.slice a ls.length c], .int .i64 er]) ∧ SlGot w' w.heap.size a c ls) ∧ Below w.heap.size w w'
theorem drop_got (ls : List (Bool × ByteArray)) (ao : Option Addr) (cap : Nat) (k : Int) (w : World) (h : LeafM.At w ao ls) (hf : LeafM.Fits ls) (hnil : ao = none → cap = 0) :
    Calls Try.prog 29 #[.agg #[.slice ao ls.length cap], .int .i64 k] w (LeafM.DropGot w) := by
  refine (leafDrop_any ls ao cap k w h hf hnil).mono ?_
  rintro e w' ⟨hb, ⟨_, rfl⟩ | ⟨h0, g, n, rfl, he, hg, hg2, hs⟩⟩
  · exact ⟨⟨none, 0, [], _, rfl, Or.inl rfl, fun _ => rfl, fun _ _ _ h => (by cases h), by simp⟩, hb⟩
  · have hn : ((LeafM.cut ls k).take n).length = n := by rw [List.length_take]; have := he.1; omega
    obtain ⟨j, _, _, _, hc, _⟩ := LeafM.get_zero h0
    have h40 := (LeafM.check_le hc).1
    have hcl : (LeafM.cut ls k).length = ls.length := by unfold LeafM.cut; simp
    refine ⟨⟨some ⟨g, 0, none⟩, n, (LeafM.cut ls k).take n, 0, by rw [hn], Or.inr ⟨g, 0, rfl, hg2, hs⟩, fun e => (by cases e), fun b off r e => ?_, ?_⟩, hb⟩
    · injection e with e
      injection e with e1
      omega
    · have := he.1; omega

def LeafM.CloneGot (ls : List (Bool × ByteArray)) (w : World) (e : Ending) (w' : World) : Prop :=
  (∃ (a : Option Addr) (c : Nat), e = .returned (.slice a ls.length c) ∧ SlGot w' w.heap.size a c ls) ∧ Below w.heap.size w w'
theorem clone_got (ls : List (Bool × ByteArray)) (ao : Option Addr) (cap : Nat) (w : World) (h : LeafM.At w ao ls) (hnil : ao = none → cap = 0) (hl : ls.length ≤ 41) :
    Calls Try.prog 32 #[.slice ao ls.length cap] w (LeafM.CloneGot ls w) := by
  refine (cloneSlots_any ls ao cap w h hnil (by omega)).mono ?_
  rintro e w' ⟨⟨v, rfl, ho⟩, hb⟩
  obtain ⟨a, c, rfl, hs⟩ := SlGot.ofOwn ho hl
  exact ⟨⟨a, c, rfl, hs⟩, hb⟩

/-- Put of one letter into a page with nothing in it. -/
def LeafM.PutX (w : World) (e : Ending) (w' : World) : Prop :=
  ∃ g cap, e = .returned (.tuple #[.agg #[.slice (some ⟨g, 0, none⟩) 1 cap], .int .i64 0, .int .i64 0]) ∧ Below w.heap.size w w'
theorem put_x (w : World) : Calls Try.prog 27 #[.agg #[.slice none 0 0], .string { data := #[120] }] w (LeafM.PutX w) := by
  refine (put_any [] none 0 _ w (Or.inl rfl) ⟨by simp, by simp⟩ (fun _ => rfl)).mono ?_
  rintro e w' ⟨hb, h | ⟨_, g, cap, he, _⟩⟩
  · exact absurd (show LeafM.putErr [] { data := #[120] } = 0 from by decide) h.1
  · exact ⟨g, cap, he, hb⟩
end Go.Proofs.Ytnolidjjeknmmaa
