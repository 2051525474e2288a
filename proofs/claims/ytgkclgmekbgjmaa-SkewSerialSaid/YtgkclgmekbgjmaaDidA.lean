/- Decisions, where a slice begins. -/
import Derived.Test.YtgkclgmekbgjmaaSnapM
import Derived.Test.YtgkclgmekbgjmaaOpsRow
import Derived.Test.YtgkclgmekbgjmaaInts
namespace Go.Proofs.Ytgkclgmekbgjmaa
section
open Go.RowKit Go.Lib

theorem Fam.congr {w : World} {base N e size : Nat} {v : Nat → Value} {m m' : Nat → Nat} {xs xs' : Nat → List Value} (h : Fam w base N e size v m xs) (h1 : ∀ i, i < N → m' i = m i) (h2 : ∀ i, i < N → xs' i = xs i) : Fam w base N e size v m' xs' :=
  ⟨fun i hi => by rw [h1 i hi, h2 i hi]; exact h.own i hi, h.apart⟩
theorem Fam.reset {w : World} {base N e size : Nat} {v : Nat → Value} {m : Nat → Nat} {xs : Nat → List Value} (h : Fam w base N e size v m xs) (k : Nat) : Fam w base N e size (upd v k (.slice none 0 0)) (upd m k 0) (upd xs k []) := by
  refine ⟨fun i hi => ?_, fun i j hi hj hij g h1 => ?_⟩
  · by_cases e : i = k
    · subst e; rw [upd_same, upd_same, upd_same]; exact World.ownsRow_nil _ _ _ _
    · rw [upd_other _ _ e, upd_other _ _ e, upd_other _ _ e]; exact h.own i hi
  · by_cases ei : i = k
    · subst ei; rw [upd_same] at h1; simp [Value.ownBlock] at h1
    · rw [upd_other _ _ ei] at h1
      by_cases ej : j = k
      · subst ej; rw [upd_same]; simp [Value.ownBlock]
      · rw [upd_other _ _ ej]; exact h.apart i j hi hj hij g h1
theorem intRow_at {w : World} {base n : Nat} {v : Value} {l : List Int} (h : w.ownsRow base 3 1 v n (intVals l)) :
    ∃ ao cap, v = .slice ao l.length cap ∧ (∀ k (hk : k < l.length), ∃ g, ao = some ⟨g, 0, none⟩ ∧ g < w.heap.size ∧ w.cell? ⟨g, k, none⟩ = some (.int .i64 l[k])) ∧ l.length ≤ cap ∧ (ao = none → cap = 0) := by
  obtain ⟨ao, cap, h1, h2, h3, h4, h5⟩ := IntsAt.own h
  refine ⟨ao, cap, h1, fun k hk => ?_, h5, h4⟩
  subst h1
  rcases h.2 with ⟨h1, hz⟩ | ⟨g, cap', cur, h1, h6, h7, _⟩
  · simp only [Value.slice.injEq] at h1; omega
  · simp only [Value.slice.injEq] at h1
    obtain ⟨rfl, hn, rfl⟩ := h1
    subst hn
    refine ⟨g, rfl, (Array.getElem?_eq_some_iff.1 h7).1, ?_⟩
    rw [h.cellAt k (by omega), intVals_get hk]
theorem any_take_succ {α : Type} {l : List α} {p : α → Bool} {k : Nat} (hk : k < l.length) (h : (l.take k).any p = false) : (l.take (k + 1)).any p = p l[k] := by
  rw [List.take_succ_eq_append_getElem hk, List.any_append, h]; simp
theorem any_of_at {α : Type} {l : List α} {p : α → Bool} {k : Nat} (hk : k < l.length) (h : p l[k] = true) : l.any p = true := List.any_eq_true.2 ⟨_, List.getElem_mem hk, h⟩
theorem below_dN {B : Nat} {a w : World} (h : Below B a w) (n : Nat) : Below B a (w.drewN n) := h.trans ⟨rfl, rfl, rfl, Nat.le_refl _, fun _ _ => rfl⟩
theorem Try.infoDid : (Try.prog.info? 59).map (fun i => (i.zero, i.size, i.bytes)) = some (some (.agg #[.bool false, .int .i64 0]), 2, 16) := by kernel_rfl
def didVals (l : List DidM) : List Value := l.flatMap fun d => [.bool d.ok, .int .i64 d.from_]
theorem didVals_len (l : List DidM) : (didVals l).length = l.length * 2 := by
  induction l with
  | nil => rfl
  | cons v r ih => simp only [didVals, List.flatMap_cons, List.length_append, List.length_cons, List.length_nil] at ih ⊢; omega
theorem didVals_append (a b : List DidM) : didVals (a ++ b) = didVals a ++ didVals b := by simp [didVals]
theorem didVals_at (l : List DidM) : ∀ (k : Nat) (h : k < l.length), (didVals l)[k * 2]? = some (.bool l[k].ok) ∧ (didVals l)[k * 2 + 1]? = some (.int .i64 l[k].from_) := by
  induction l with
  | nil => intro k h; simp at h
  | cons v r ih =>
    intro k h
    cases k with
    | zero => exact ⟨rfl, rfl⟩
    | succ k =>
      have h2 := ih k (by simpa using h)
      have e1 : (k + 1) * 2 = k * 2 + 1 + 1 := by omega
      rw [e1]
      simp only [didVals, List.flatMap_cons, List.cons_append, List.nil_append, List.getElem?_cons_succ, List.getElem_cons_succ]
      exact h2
end
section
open Go.RowKit Go.Lib

/-- Decisions stand where a slice begins. -/
def DidAt (w : World) (ao : Option Addr) (l : List DidM) : Prop :=
  l = [] ∨ ∃ b, ao = some ⟨b, 0, none⟩ ∧ b < w.heap.size ∧ ∀ k (h : k < l.length), w.cell? ⟨b, k * 2, none⟩ = some (.bool l[k].ok) ∧ w.cell? ⟨b, k * 2 + 1, none⟩ = some (.int .i64 l[k].from_)
theorem DidAt.below {B : Nat} {w w' : World} {ao : Option Addr} {l : List DidM} (h : DidAt w ao l) (hb : Below B w w') (hB : w.heap.size ≤ B) : DidAt w' ao l := by
  rcases h with h | ⟨b, h1, h2, h3⟩
  · exact Or.inl h
  · exact Or.inr ⟨b, h1, Nat.lt_of_lt_of_le h2 hb.size, fun k hk => ⟨(hb.cell (p := ⟨b, k * 2, none⟩) (Nat.lt_of_lt_of_le h2 hB)).trans (h3 k hk).1, (hb.cell (p := ⟨b, k * 2 + 1, none⟩) (Nat.lt_of_lt_of_le h2 hB)).trans (h3 k hk).2⟩⟩
theorem DidAt.own {w : World} {base n : Nat} {v : Value} {l : List DidM} (h : w.ownsRow base 59 2 v n (didVals l)) : ∃ ao cap, v = .slice ao l.length cap ∧ DidAt w ao l := by
  have hl : n = l.length := by have := h.1; rw [didVals_len] at this; omega
  rcases h.2 with ⟨h1, h2⟩ | ⟨g, cap, cur, h1, h2, h3, h4, _⟩
  · have : l = [] := List.eq_nil_of_length_eq_zero (by omega)
    subst this
    exact ⟨none, 0, h1, Or.inl rfl⟩
  · subst hl
    refine ⟨_, cap, h1, Or.inr ⟨g, rfl, (Array.getElem?_eq_some_iff.1 h3).1, fun k hk => ?_⟩⟩
    have ho := h
    rw [h1] at ho
    obtain ⟨c0, c1⟩ := didVals_at l k hk
    rw [ho.cellAt (k * 2) (by omega), ho.cellAt (k * 2 + 1) (by omega)]
    exact ⟨c0, c1⟩
end
end Go.Proofs.Ytgkclgmekbgjmaa
