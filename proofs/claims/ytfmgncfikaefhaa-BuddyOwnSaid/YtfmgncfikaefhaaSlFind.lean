/- slices.IndexFunc over ints, at a predicate that only reads. -/
import Derived.Test.YtfmgncfikaefhaaHeap
import Derived.Deep.DeepMust
namespace Go.Proofs.Ytfmgncfikaefhaa
open Go.RowKit Go.Lib

def intVals (l : List Int) : List Value := l.map (Value.int .i64)
theorem intVals_len (l : List Int) : (intVals l).length = l.length := by simp [intVals]
theorem intVals_get {l : List Int} {k : Nat} (h : k < l.length) : (intVals l)[k]? = some (.int .i64 l[k]) := by simp [intVals, h]
theorem intVals_append (l m : List Int) : intVals (l ++ m) = intVals l ++ intVals m := by simp [intVals]
/-- Numbers l stand where a slice of so many begins. -/
def IntsAt (w : World) (ao : Option Addr) (l : List Int) : Prop :=
  l = [] ∨ ∃ b off, ao = some ⟨b, off, none⟩ ∧ b < w.heap.size ∧ ∀ k (h : k < l.length), w.cell? ⟨b, off + k, none⟩ = some (.int .i64 l[k])
theorem IntsAt.below {B : Nat} {w w' : World} {ao : Option Addr} {l : List Int} (h : IntsAt w ao l) (hb : Below B w w') (hB : w.heap.size ≤ B) : IntsAt w' ao l := by
  rcases h with h | ⟨b, off, h1, h2, h3⟩
  · exact Or.inl h
  · exact Or.inr ⟨b, off, h1, Nat.lt_of_lt_of_le h2 hb.size, fun k hk => (hb.cell (p := ⟨b, off + k, none⟩) (Nat.lt_of_lt_of_le h2 hB)).trans (h3 k hk)⟩
theorem IntsAt.own {w : World} {base n : Nat} {v : Value} {l : List Int} (h : w.ownsRow base 3 1 v n (intVals l)) : ∃ ao cap, v = .slice ao l.length cap ∧ n = l.length ∧ IntsAt w ao l ∧ (ao = none → cap = 0) ∧ l.length ≤ cap := by
  have hl : n = l.length := by have := h.1; rw [intVals_len] at this; omega
  rcases h.2 with ⟨h1, h2⟩ | ⟨g, cap, cur, h1, h2, h3, h4, _⟩
  · have : l = [] := List.eq_nil_of_length_eq_zero (by omega)
    subst this
    exact ⟨none, 0, h1, h2, Or.inl rfl, fun _ => rfl, Nat.le_refl _⟩
  · subst hl
    refine ⟨_, cap, h1, rfl, Or.inr ⟨g, 0, rfl, (Array.getElem?_eq_some_iff.1 h3).1, fun k hk => ?_⟩, (fun h => by simp at h), h4⟩
    have ho := h
    rw [h1] at ho
    rw [Nat.zero_add, ho.cellAt k (by omega), intVals_get hk]

/-- Function g, with lb behind, tells p of a number and turns nothing, in world W. -/
def Tells (g : Nat) (lb : Array Value) (p : Int → Bool) (W : World) : Prop := ∀ x : Int, Calls Try.prog g (#[.int .i64 x] ++ lb) W fun e w' => e = .returned (.bool (p x)) ∧ W = w'

/-- A function value that is a function of the program enters it. -/
theorem enters_fn {f : FuncId} {fn : Func} {c : Code} (hf : Try.prog.funcs[f]? = some fn) (hname : (fn.name == "runtime.NumGoroutine") = false) (hb : fn.body = some c) : ∀ args w, (callFunc f args).run Try.prog w = .ok (.enter f args) w := by
  intro args w
  have h1 : fn.name ≠ "runtime.NumGoroutine" := by simpa using hname
  simp [callFunc, hf, h1, hb, mark]

def IntsM.find (p : Int → Bool) (l : List Int) : Int := if l.findIdx p < l.length then (l.findIdx p : Int) else -1

set_option maxRecDepth 20000 in
set_option maxHeartbeats 1000000 in
theorem indexFunc_any (l : List Int) (ao : Option Addr) (cap g : Nat) (lb : Array Value) (p : Int → Bool) (w : World) (h : IntsAt w ao l) (hn : l.length ≤ 9000000000000000000) (hp : Tells g lb p w)
    (eg : ∀ args w, (callFunc g args).run Try.prog w = .ok (.enter g args) w) :
    Calls Try.prog 85 #[.slice ao l.length cap, .func (.func g) #[] lb] w fun e w' => e = .returned (.int .i64 (IntsM.find p l)) ∧ w = w' := by
  have H := box h; have Hp := box hp
  clear h hp
  go_enter Try.func85, Try.ntmps85
  go_wp2_with fail
  go_loop [8] (fun t8 => ∃ k : Nat, k ≤ l.length ∧ t8 = .int .i64 (k : Int) ∧ Box (∀ j (h : j < l.length), j < k → p l[j] = false)) (fun t8 => l.length - (intOf t8).toNat)
  case atStart => exact ⟨0, Nat.zero_le _, rfl, ⟨fun j _ h => by omega⟩⟩
  case round =>
    obtain ⟨k, hk, rfl, Hall⟩ := hrel
    by_cases hlt : k < l.length
    · obtain ⟨b, off, rfl, hb, hrow⟩ := (H.out.resolve_left (by intro h; rw [h] at hlt; simp at hlt))
      have hc := hrow k hlt
      have Hc := box (Hp.out l[k])
      have HF : Box (p l[k] = true → IntsM.find p l = (k : Int)) := ⟨fun h => by
        have : l.findIdx p = k := by
          rw [List.findIdx_eq (by omega)]
          exact ⟨h, fun j hj => Hall.out j (by omega) hj⟩
        unfold IntsM.find
        rw [this, if_pos hlt]⟩
      have HN : Box (p l[k] = false → ∀ j (h : j < l.length), j < k + 1 → p l[j] = false) := ⟨fun h j hj h2 => by
        by_cases e : j = k
        · subst e; exact h
        · exact Hall.out j hj (by omega)⟩
      generalize l[k] = x at *
      clear hrow
      go_wp2_with fail
      refine (Hc.out).mono ?_
      rintro e w' ⟨rfl, rfl⟩
      generalize p x = v at *
      cases v with
      | true =>
        go_wp2_with fail
        go_ret
        exact ⟨by rw [HF.out (by simp)]; rfl, rfl⟩
      | false =>
        go_wp2_with fail
        go_round
        case rel => exact ⟨k + 1, hlt, by go_num, ⟨HN.out (by simp)⟩⟩
        case measure => simp [intOf]; omega
    · have HF : Box (IntsM.find p l = -1) := ⟨by
        unfold IntsM.find
        rw [if_neg]
        intro h
        have h2 := List.findIdx_getElem (w := h)
        have := Hall.out _ h (by omega)
        rw [this] at h2; simp at h2⟩
      go_wp2_with fail
      go_ret
      exact ⟨by rw [HF.out]; rfl, rfl⟩
end Go.Proofs.Ytfmgncfikaefhaa
