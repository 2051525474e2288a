/- graph.Check: what it answers. -/
import Derived.Test.YtnnkejolfhhmlaaGreatGrB
import Derived.Test.YtnnkejolfhhmlaaGreatHeap
namespace Go.Proofs.YtnnkejolfhhmlaaGreat
section
open Go.RowKit Go.Lib

/-- They stand where a slice begins. -/
def EgsAt (w : World) (ao : Option Addr) (l : List EgM) : Prop :=
  l = [] ∨ ∃ b off, ao = some ⟨b, off, none⟩ ∧ b < w.heap.size ∧ ∀ k (h : k < l.length), w.cell? ⟨b, off + k * 2, none⟩ = some (.int .i64 l[k].frm) ∧ w.cell? ⟨b, off + k * 2 + 1, none⟩ = some (.int .i64 l[k].to_)
theorem EgsAt.below {B : Nat} {w w' : World} {ao : Option Addr} {l : List EgM} (h : EgsAt w ao l) (hb : Below B w w') (hB : w.heap.size ≤ B) : EgsAt w' ao l := by
  rcases h with h | ⟨b, off, h1, h2, h3⟩
  · exact Or.inl h
  · exact Or.inr ⟨b, off, h1, Nat.lt_of_lt_of_le h2 hb.size, fun k hk => ⟨(hb.cell (p := ⟨b, off + k * 2, none⟩) (Nat.lt_of_lt_of_le h2 hB)).trans (h3 k hk).1, (hb.cell (p := ⟨b, off + k * 2 + 1, none⟩) (Nat.lt_of_lt_of_le h2 hB)).trans (h3 k hk).2⟩⟩
def egVals (l : List EgM) : List Value := l.flatMap fun d => [.int .i64 d.frm, .int .i64 d.to_]
theorem egVals_len (l : List EgM) : (egVals l).length = l.length * 2 := by
  induction l with
  | nil => rfl
  | cons v r ih => simp only [egVals, List.flatMap_cons, List.length_append, List.length_cons, List.length_nil] at ih ⊢; omega
theorem egVals_append (a b : List EgM) : egVals (a ++ b) = egVals a ++ egVals b := by simp [egVals]
theorem egVals_one (l : List EgM) : ∀ u ∈ egVals l, u.oneCell' = true := by
  intro u hu
  simp only [egVals, List.mem_flatMap] at hu
  obtain ⟨o, _, h⟩ := hu
  simp at h
  rcases h with rfl | rfl <;> rfl
theorem egVals_at (l : List EgM) : ∀ (k : Nat) (h : k < l.length), (egVals l)[k * 2]? = some (.int .i64 l[k].frm) ∧ (egVals l)[k * 2 + 1]? = some (.int .i64 l[k].to_) := by
  induction l with
  | nil => intro k h; simp at h
  | cons v r ih =>
    intro k h
    cases k with
    | zero => exact ⟨rfl, rfl⟩
    | succ k =>
      have h2 := ih k (by simpa using h)
      have e1 : (k + 1) * 2 = k * 2 + 1 + 1 := by omega
      rw [e1]
      simp only [egVals, List.flatMap_cons, List.cons_append, List.nil_append, List.getElem?_cons_succ, List.getElem_cons_succ]
      exact h2
theorem EgsAt.own {w : World} {base n : Nat} {v : Value} {l : List EgM} (h : w.ownsRow base 180 2 v n (egVals l)) : ∃ ao cap, v = .slice ao l.length cap ∧ n = l.length ∧ EgsAt w ao l ∧ (ao = none → cap = 0) ∧ l.length ≤ cap := by
  have hl : n = l.length := by have := h.1; rw [egVals_len] at this; omega
  rcases h.2 with ⟨h1, h2⟩ | ⟨g, cap, cur, h1, h2, h3, h4, _⟩
  · have : l = [] := List.eq_nil_of_length_eq_zero (by omega)
    subst this
    exact ⟨none, 0, h1, hl, Or.inl rfl, fun _ => rfl, Nat.le_refl _⟩
  · subst hl
    refine ⟨_, cap, h1, rfl, Or.inr ⟨g, 0, rfl, (Array.getElem?_eq_some_iff.1 h3).1, fun k hk => ?_⟩, (fun h => by cases h), h4⟩
    have ho := h
    rw [h1] at ho
    obtain ⟨c0, c1⟩ := egVals_at l k hk
    rw [Nat.zero_add, ho.cellAt (k * 2) (by omega), ho.cellAt (k * 2 + 1) (by omega)]
    exact ⟨c0, c1⟩
end
section
open Go.RowKit Go.Lib

theorem GrM.form_no {n : Int} {l : List EgM} {k : Nat} (hk : k < l.length) (h : ¬ (0 ≤ l[k].frm ∧ l[k].frm < n ∧ 0 ≤ l[k].to_ ∧ l[k].to_ < n)) : GrM.formOk n l = false := by
  cases hf : GrM.formOk n l with
  | false => rfl
  | true => exact absurd (of_decide_eq_true (List.all_eq_true.1 hf _ (List.getElem_mem hk))) h
theorem GrM.form_yes {n : Int} {l : List EgM} (h : ∀ k (hk : k < l.length), 0 ≤ l[k].frm ∧ l[k].frm < n ∧ 0 ≤ l[k].to_ ∧ l[k].to_ < n) : GrM.formOk n l = true := by
  unfold GrM.formOk
  rw [List.all_eq_true]
  intro e he
  obtain ⟨k, hk, rfl⟩ := List.mem_iff_getElem.1 he
  exact decide_eq_true (h k hk)

set_option maxRecDepth 20000 in
set_option maxHeartbeats 4000000 in
theorem graphCheck_any (n : Int) (l : List EgM) (ao : Option Addr) (cap : Nat) (w : World) (h : EgsAt w ao l) (hn : l.length ≤ 9000000000000) :
    Calls Tryz.prog 109 #[.int .i64 n, .slice ao l.length cap] w fun e w' => e = .returned (.int .i64 (GrM.check n l)) ∧ Below w.heap.size w w' := by
  have H := box h
  have HC := box (show GrM.check n l = if n < 0 ∨ 60 < n then 1 else if 2000 < l.length then 2 else if GrM.formOk n l = true then 0 else 4 from rfl)
  have HNo := box (fun k hk h => GrM.form_no (n := n) (l := l) (k := k) hk h)
  have HYes := box (fun h => GrM.form_yes (n := n) (l := l) h)
  obtain ⟨c, Hc⟩ : ∃ c, Box (GrM.check n l = c) := ⟨_, ⟨rfl⟩⟩
  rw [Hc.out] at HC ⊢
  obtain ⟨N, HN⟩ : ∃ N, Box (l.length = N) := ⟨_, ⟨rfl⟩⟩
  rw [HN.out] at HC hn ⊢
  clear h
  go_enter Tryz.func109, Tryz.ntmps109
  cases d1 : decide (n < 0) with
  | true =>
    have hc : c = 1 := by rw [HC.out, if_pos (Or.inl (of_decide_eq_true d1))]
    have Hc1 := box hc; clear hc
    go_wp2_with fail
    go_ret
    exact ⟨by rw [Hc1.out]; rfl, Below.refl _ _⟩
  | false =>
  cases d2 : decide (60 < n) with
  | true =>
    have hc : c = 1 := by rw [HC.out, if_pos (Or.inr (of_decide_eq_true d2))]
    have Hc1 := box hc; clear hc
    go_wp2_with fail
    go_ret
    exact ⟨by rw [Hc1.out]; rfl, Below.refl _ _⟩
  | false =>
  have h12 : ¬ (n < 0 ∨ 60 < n) := by have := of_decide_eq_false d1; have := of_decide_eq_false d2; omega
  cases d3 : decide (2000 < N) with
  | true =>
    have hc : c = 2 := by rw [HC.out, if_neg h12, if_pos (of_decide_eq_true d3)]
    have Hc1 := box hc; clear hc
    have d3' : decide ((2000 : Int) < (N : Int)) = true := by have := of_decide_eq_true d3; simp; omega
    clear h12
    go_wp2_with fail
    go_ret
    exact ⟨by rw [Hc1.out]; rfl, Below.refl _ _⟩
  | false =>
  have d3' : decide ((2000 : Int) < (N : Int)) = false := by have := of_decide_eq_false d3; simp; omega
  have HC2 : Box (c = if GrM.formOk n l = true then 0 else 4) := ⟨by rw [HC.out, if_neg h12, if_neg (of_decide_eq_false d3)]⟩
  have hn0 : 0 ≤ n := by have := of_decide_eq_false d1; omega
  have hn60 : n ≤ 60 := by have := of_decide_eq_false d2; omega
  clear h12 HC
  go_wp2_with fail
  go_loopw [18] (fun t18 wr => ∃ k : Nat, k ≤ N ∧ t18 = .int .i64 (k : Int) ∧ Box (Below w.heap.size w wr ∧ ∀ i (hi : i < l.length), i < k → 0 ≤ l[i].frm ∧ l[i].frm < n ∧ 0 ≤ l[i].to_ ∧ l[i].to_ < n)) (fun t18 _ => N - (RowKit.intOf t18).toNat)
  case atStart => exact ⟨0, Nat.zero_le _, rfl, ⟨Below.refl _ _, fun i hi h => by omega⟩⟩
  case round =>
    obtain ⟨k, hk, rfl, HR⟩ := hrel
    by_cases hlt : k < N
    · have hkl : k < l.length := by rw [HN.out]; exact hlt
      obtain ⟨b, off, rfl, hb, hrow⟩ := (H.out.below HR.out.1 (Nat.le_refl _)).resolve_left (by intro h; have := HN.out; rw [h] at this; simp at this; omega)
      obtain ⟨c0, c1⟩ := hrow k hkl
      obtain ⟨f, Hf⟩ : ∃ f, Box (l[k].frm = f) := ⟨_, ⟨rfl⟩⟩
      obtain ⟨t, Ht⟩ : ∃ t, Box (l[k].to_ = t) := ⟨_, ⟨rfl⟩⟩
      rw [Hf.out] at c0; rw [Ht.out] at c1
      have HB2 : Box (Below w.heap.size w (wr.alloc (.cells #[.int .i64 f, .int .i64 t] 180))) := ⟨HR.out.1.alloc HR.out.1.size _⟩
      have HBad : Box (¬ (0 ≤ f ∧ f < n ∧ 0 ≤ t ∧ t < n) → c = 4) := ⟨fun h => by rw [HC2.out, HNo.out k hkl (by rw [Hf.out, Ht.out]; exact h), if_neg (by decide)]⟩
      have HGood : Box ((0 ≤ f ∧ f < n ∧ 0 ≤ t ∧ t < n) → ∀ i (hi : i < l.length), i < k + 1 → 0 ≤ l[i].frm ∧ l[i].frm < n ∧ 0 ≤ l[i].to_ ∧ l[i].to_ < n) := ⟨fun h i hi h2 => by
        by_cases e : i = k
        · subst e; rw [Hf.out, Ht.out]; exact h
        · exact HR.out.2 i hi (by omega)⟩
      clear hrow
      cases e1 : decide (f < 0) with
      | true =>
        have Hc4 := box (HBad.out (fun h => by have := of_decide_eq_true e1; omega))
        go_wp2_with fail
        go_ret
        exact ⟨by rw [Hc4.out]; rfl, HB2.out⟩
      | false =>
      cases e2 : decide (n ≤ f) with
      | true =>
        have Hc4 := box (HBad.out (fun h => by have := of_decide_eq_true e2; omega))
        go_wp2_with fail
        go_ret
        exact ⟨by rw [Hc4.out]; rfl, HB2.out⟩
      | false =>
      cases e3 : decide (t < 0) with
      | true =>
        have Hc4 := box (HBad.out (fun h => by have := of_decide_eq_true e3; omega))
        go_wp2_with fail
        go_ret
        exact ⟨by rw [Hc4.out]; rfl, HB2.out⟩
      | false =>
      cases e4 : decide (n ≤ t) with
      | true =>
        have Hc4 := box (HBad.out (fun h => by have := of_decide_eq_true e4; omega))
        go_wp2_with fail
        go_ret
        exact ⟨by rw [Hc4.out]; rfl, HB2.out⟩
      | false =>
        have HG := box (HGood.out ⟨by have := of_decide_eq_false e1; omega, by have := of_decide_eq_false e2; omega, by have := of_decide_eq_false e3; omega, by have := of_decide_eq_false e4; omega⟩)
        go_wp2_with fail
        go_roundw
        case rel => exact ⟨k + 1, by omega, by go_num, ⟨HB2.out, HG.out⟩⟩
        case measure => simp [RowKit.intOf]; omega
    · have Hc0 : Box (c = 0) := ⟨by rw [HC2.out, HYes.out (fun i hi => HR.out.2 i hi (by have := HN.out; omega)), if_pos rfl]⟩
      go_wp2_with fail
      go_ret
      exact ⟨by rw [Hc0.out]; rfl, HR.out.1⟩
end
end Go.Proofs.YtnnkejolfhhmlaaGreat
