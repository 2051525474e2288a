/- How transactions of a story hang on one another: plain, as cells, and in an order. -/
import Derived.Test.YtgkclgmekbgjmaaStoM
import Derived.Test.YtgkclgmekbgjmaaIntIdx
import Derived.Shelf.SlSortCmp.Insertion
namespace Go.Proofs.Ytgkclgmekbgjmaa
open Go.RowKit Go.Lib Go.Sort

structure DepM where
  frm : Int
  to_ : Int
  kind : Int
  deriving DecidableEq, Inhabited

/-- As cells. -/
def dpEnc (p : DepM) : List Value := [.int .i64 p.frm, .int .i64 p.to_, .int .i64 p.kind]
def dpVals (l : List DepM) : List Value := l.flatMap dpEnc
theorem dpVals_len (l : List DepM) : (dpVals l).length = l.length * 3 := by
  induction l with
  | nil => rfl
  | cons o l ih => simp only [dpVals, dpEnc, List.flatMap_cons, List.length_append, List.length_cons, List.length_nil] at *; omega
theorem dpVals_append (a b : List DepM) : dpVals (a ++ b) = dpVals a ++ dpVals b := by simp [dpVals]
theorem dpVals_one (l : List DepM) : ∀ u ∈ dpVals l, u.oneCell' = true := by
  intro u hu
  simp only [dpVals, dpEnc, List.mem_flatMap] at hu
  obtain ⟨o, _, h⟩ := hu
  simp at h
  rcases h with rfl | rfl | rfl <;> rfl
theorem dpVals_at (l : List DepM) : ∀ (k : Nat) (h : k < l.length), (dpVals l)[k * 3]? = some (.int .i64 l[k].frm) ∧ (dpVals l)[k * 3 + 1]? = some (.int .i64 l[k].to_) ∧ (dpVals l)[k * 3 + 2]? = some (.int .i64 l[k].kind) := by
  induction l with
  | nil => intro k h; simp at h
  | cons s l ih =>
    intro k h
    cases k with
    | zero => simp [dpVals, dpEnc]
    | succ k =>
      have := ih k (by simpa using h)
      simp only [dpVals, dpEnc, List.flatMap_cons] at this ⊢
      have e1 : (k + 1) * 3 = k * 3 + 3 := by omega
      have e2 : k * 3 + 3 + 1 = k * 3 + 1 + 3 := by omega
      have e3 : k * 3 + 3 + 2 = k * 3 + 2 + 3 := by omega
      rw [e1, e2, e3]
      simpa using this
theorem dpVals_set (l : List DepM) : ∀ (i : Nat) (x : DepM), i < l.length → ((((dpVals l).set (i * 3) (.int .i64 x.frm)).set (i * 3 + 1) (.int .i64 x.to_)).set (i * 3 + 2) (.int .i64 x.kind)) = dpVals (l.set i x) := by
  induction l with
  | nil => intro i x h; simp at h
  | cons a r ih =>
    intro i x h
    cases i with
    | zero => rfl
    | succ i =>
      have := ih i x (by simpa using h)
      rw [show (i + 1) * 3 = i * 3 + 3 by omega]
      simp only [dpVals, dpEnc, List.flatMap_cons, List.cons_append, List.nil_append, List.set_cons_succ] at this ⊢
      rw [this]
theorem dpVals_take (l : List DepM) : ∀ i, (dpVals l).take (i * 3) = dpVals (l.take i) := by
  induction l with
  | nil => intro i; simp [dpVals]
  | cons a r ih =>
    intro i
    cases i with
    | zero => simp [dpVals]
    | succ i =>
      have := ih i
      rw [show (i + 1) * 3 = i * 3 + 3 by omega]
      simp only [dpVals, dpEnc, List.flatMap_cons, List.cons_append, List.nil_append, List.take_succ_cons] at this ⊢
      rw [this]
/-- They stand where a slice begins. -/
def DpsAt (w : World) (ao : Option Addr) (l : List DepM) : Prop :=
  l = [] ∨ ∃ b off, ao = some ⟨b, off, none⟩ ∧ b < w.heap.size ∧
    ∀ k (h : k < l.length), w.cell? ⟨b, off + k * 3, none⟩ = some (.int .i64 l[k].frm) ∧ w.cell? ⟨b, off + k * 3 + 1, none⟩ = some (.int .i64 l[k].to_) ∧ w.cell? ⟨b, off + k * 3 + 2, none⟩ = some (.int .i64 l[k].kind)
theorem DpsAt.below {B : Nat} {w w' : World} {ao : Option Addr} {l : List DepM} (h : DpsAt w ao l) (hb : Below B w w') (hB : w.heap.size ≤ B) : DpsAt w' ao l := by
  rcases h with h | ⟨b, off, h1, h2, h3⟩
  · exact Or.inl h
  · refine Or.inr ⟨b, off, h1, Nat.lt_of_lt_of_le h2 hb.size, fun k hk => ?_⟩
    obtain ⟨c0, c1, c2⟩ := h3 k hk
    have hl := Nat.lt_of_lt_of_le h2 hB
    exact ⟨(hb.cell (p := ⟨b, off + k * 3, none⟩) hl).trans c0, (hb.cell (p := ⟨b, off + k * 3 + 1, none⟩) hl).trans c1, (hb.cell (p := ⟨b, off + k * 3 + 2, none⟩) hl).trans c2⟩
theorem DpsAt.own {w : World} {base n : Nat} {v : Value} {l : List DepM} (h : w.ownsRow base 106 3 v n (dpVals l)) :
    ∃ ao cap, v = .slice ao l.length cap ∧ n = l.length ∧ DpsAt w ao l ∧ (ao = none → cap = 0) ∧ l.length ≤ cap := by
  have hl : n = l.length := by have := h.1; rw [dpVals_len] at this; omega
  rcases h.2 with ⟨h1, h2⟩ | ⟨g, cap, cur, h1, h2, h3, h4, _⟩
  · have : l = [] := List.eq_nil_of_length_eq_zero (by omega)
    subst this
    exact ⟨none, 0, h1, h2, Or.inl rfl, fun _ => rfl, Nat.le_refl _⟩
  · subst hl
    refine ⟨_, cap, h1, rfl, Or.inr ⟨g, 0, rfl, (Array.getElem?_eq_some_iff.1 h3).1, fun k hk => ?_⟩, (fun h => by simp at h), h4⟩
    have ho := h
    rw [h1] at ho
    obtain ⟨c0, c1, c2⟩ := dpVals_at l k hk
    rw [Nat.zero_add, ho.cellAt (k * 3) (by omega), ho.cellAt (k * 3 + 1) (by omega), ho.cellAt (k * 3 + 2) (by omega)]
    exact ⟨c0, c1, c2⟩

/-- The first of some numbers that is not 0. -/
def orInt : List Int → Int
  | [] => 0
  | a :: r => if a = 0 then orInt r else a
theorem orInt_at : ∀ (l : List Int) (k : Nat) (h : k < l.length), (∀ j (h : j < l.length), j < k → l[j] = 0) → l[k] ≠ 0 → orInt l = l[k]
  | [], k, h, _, _ => by simp at h
  | a :: r, 0, h, _, hne => by
    unfold orInt
    have h0 : a ≠ 0 := hne
    rw [if_neg h0]; rfl
  | a :: r, k + 1, h, hall, hne => by
    unfold orInt
    have h0 : a = 0 := hall 0 (by simp) (by omega)
    rw [if_pos h0]
    exact orInt_at r k (by simpa using h) (fun j hj hlt => hall (j + 1) (by simpa using hj) (by omega)) hne
theorem orInt_zero : ∀ (l : List Int), (∀ j (h : j < l.length), l[j] = 0) → orInt l = 0
  | [], _ => rfl
  | a :: r, h => by
    unfold orInt
    have h0 : a = 0 := h 0 (by simp)
    rw [if_pos h0]
    exact orInt_zero r (fun j hj => h (j + 1) (by simpa using hj))
theorem cmpI_zero {a b : Int} : Lib.compareInt a b = 0 ↔ a = b := by
  unfold Lib.compareInt
  by_cases h1 : a < b
  · simp [h1]; omega
  · by_cases h2 : b < a
    · simp [h1, h2]; omega
    · simp [h1, h2]; omega
def DepM.cf (x y : DepM) : Int := orInt [Lib.compareInt x.frm y.frm, Lib.compareInt x.to_ y.to_, Lib.compareInt x.kind y.kind]
def DepM.lt (x y : DepM) : Prop := x.frm < y.frm ∨ (x.frm = y.frm ∧ (x.to_ < y.to_ ∨ (x.to_ = y.to_ ∧ x.kind < y.kind)))
theorem DepM.ltOf_iff (x y : DepM) : ltOf DepM.cf x y = true ↔ DepM.lt x y := by
  unfold ltOf DepM.cf DepM.lt
  simp only [orInt, cmpI_zero, decide_eq_true_eq]
  have hc : ∀ a b : Int, Lib.compareInt a b < 0 ↔ a < b := by
    intro a b
    unfold Lib.compareInt
    by_cases h1 : a < b
    · simp [h1]
    · by_cases h2 : b < a <;> simp [h1, h2]
  split
  · split
    · split
      · omega
      · rw [hc]; omega
    · rw [hc]; omega
  · rw [hc]; omega
theorem DepM.ltOf_no (x y : DepM) : ltOf DepM.cf x y = false ↔ ¬ DepM.lt x y := by
  rw [← DepM.ltOf_iff]; simp
theorem DepM.swo : SWO (ltOf DepM.cf) where
  irrefl x := by rw [DepM.ltOf_no]; unfold DepM.lt; omega
  trans x y z h1 h2 := by rw [DepM.ltOf_iff] at *; unfold DepM.lt at *; omega
  ntrans x y z h1 h2 := by rw [DepM.ltOf_no] at *; unfold DepM.lt at *; omega
theorem DepM.whole (x y : DepM) (h1 : ltOf DepM.cf x y = false) (h2 : ltOf DepM.cf y x = false) : x = y := by
  rw [DepM.ltOf_no] at h1 h2
  obtain ⟨x0, x1, x2⟩ := x
  obtain ⟨y0, y1, y2⟩ := y
  unfold DepM.lt at h1 h2
  simp only at h1 h2
  have e0 : x0 = y0 := by omega
  have e1 : x1 = y1 := by omega
  have e2 : x2 = y2 := by omega
  rw [e0, e1, e2]
def DepM.sorted (l : List DepM) : List DepM := l.mergeSort fun x y => !(ltOf DepM.cf) y x
theorem DepM.sorted_perm (l : List DepM) : (DepM.sorted l).Perm l := List.mergeSort_perm _ _
theorem DepM.sorted_pair (l : List DepM) : (DepM.sorted l).Pairwise fun x y => ¬ DepM.lt y x := by
  have := List.pairwise_mergeSort (le := fun x y => !(ltOf DepM.cf) y x) (fun a b c h1 h2 => by
      simp only [Bool.not_eq_true', DepM.ltOf_no] at *
      unfold DepM.lt at *; omega) (fun a b => by
      cases h1 : ltOf DepM.cf b a <;> cases h2 : ltOf DepM.cf a b <;> simp
      rw [DepM.ltOf_iff] at h1 h2; unfold DepM.lt at *; omega) l
  exact this.imp (fun h => by rw [Bool.not_eq_true', DepM.ltOf_no] at h; exact h)

/-- Of like neighbours the first alone, of the first m. -/
def DepM.firsts (l : List DepM) (m : Nat) : List DepM := ((List.range m).filter fun j => decide (j = 0 ∨ l[j]! ≠ l[j - 1]!)).map fun j => l[j]!
def DepM.compact (l : List DepM) : List DepM := DepM.firsts l l.length
theorem DepM.firsts_succ (l : List DepM) (m : Nat) : DepM.firsts l (m + 1) = DepM.firsts l m ++ if m = 0 ∨ l[m]! ≠ l[m - 1]! then [l[m]!] else [] := by
  unfold DepM.firsts
  rw [List.range_succ, List.filter_append, List.map_append]
  congr 1
  by_cases h : m = 0 ∨ l[m]! ≠ l[m - 1]!
  · rw [if_pos h, List.filter_cons, if_pos (decide_eq_true h)]; rfl
  · rw [if_neg h, List.filter_cons, if_neg (by rw [decide_eq_true_iff]; exact h)]; rfl
theorem DepM.firsts_len (l : List DepM) (m : Nat) : (DepM.firsts l m).length ≤ m := by
  unfold DepM.firsts
  rw [List.length_map]
  exact Nat.le_trans (List.length_filter_le _ _) (by simp)
theorem DepM.firsts_all (l : List DepM) : ∀ m, m ≤ l.length → (∀ j, 0 < j → j < m → l[j]! ≠ l[j - 1]!) → DepM.firsts l m = l.take m := by
  intro m
  induction m with
  | zero => intro _ _; rfl
  | succ m ih =>
    intro hm h
    rw [DepM.firsts_succ, ih (by omega) (fun j h0 h1 => h j h0 (by omega)), List.take_succ_eq_append_getElem (by omega), if_pos, getElem!_pos l m (by omega)]
    by_cases e : m = 0
    · exact Or.inl e
    · exact Or.inr (h m (by omega) (by omega))
theorem DepM.mem_compact {l : List DepM} {d : DepM} : d ∈ DepM.compact l ↔ d ∈ l := by
  unfold DepM.compact DepM.firsts
  simp only [List.mem_map, List.mem_filter, List.mem_range, decide_eq_true_eq]
  constructor
  · rintro ⟨j, ⟨hj, _⟩, rfl⟩
    rw [getElem!_pos l j hj]
    exact List.getElem_mem hj
  · intro hd
    have key : ∀ j, j < l.length → l[j]! = d → ∃ i, (i < l.length ∧ (i = 0 ∨ l[i]! ≠ l[i - 1]!)) ∧ l[i]! = d := by
      intro j
      induction j with
      | zero => intro hj he; exact ⟨0, ⟨hj, Or.inl rfl⟩, he⟩
      | succ j ih =>
        intro hj he
        by_cases e : l[j + 1]! = l[j]!
        · exact ih (by omega) (by rw [← e]; exact he)
        · exact ⟨j + 1, ⟨hj, Or.inr (by simpa using e)⟩, he⟩
    obtain ⟨j, hj, he⟩ := List.mem_iff_getElem.1 hd
    exact key j hj (by rw [getElem!_pos l j hj]; exact he)
theorem DepM.compact_nodup {l : List DepM} (h : l.Pairwise fun x y => ¬ DepM.lt y x) : (DepM.compact l).Nodup := by
  unfold DepM.compact DepM.firsts
  rw [List.nodup_iff_pairwise_ne, List.pairwise_map, List.pairwise_filter]
  rw [List.pairwise_iff_getElem] at h
  refine List.Pairwise.imp_of_mem ?_ List.pairwise_lt_range
  intro i j hi hj hij hi2 hj2 he
  rw [List.mem_range] at hi hj
  rw [decide_eq_true_eq] at hj2
  have hj3 := hj2.resolve_left (by omega)
  have h1 := h (j - 1) j (by omega) hj (by omega)
  have h2 : ¬ DepM.lt l[j - 1] l[i] := by
    by_cases e : i = j - 1
    · subst e; unfold DepM.lt; omega
    · exact h i (j - 1) hi (by omega) (by omega)
  rw [getElem!_pos l j hj, getElem!_pos l (j - 1) (by omega)] at hj3
  rw [getElem!_pos l i hi, getElem!_pos l j hj] at he
  rw [he] at h2
  exact hj3 (DepM.whole _ _ ((DepM.ltOf_no _ _).2 h1) ((DepM.ltOf_no _ _).2 h2))
theorem DepM.few {l : List DepM} (hnd : l.Nodup) (h : ∀ d ∈ l, 0 ≤ d.frm ∧ d.frm < 12 ∧ 0 ≤ d.to_ ∧ d.to_ < 12 ∧ 1 ≤ d.kind ∧ d.kind ≤ 3) : l.length ≤ 432 := by
  have h1 : (l.map fun d => (d.frm * 36 + d.to_ * 3 + (d.kind - 1)).toNat).Nodup := by
    rw [List.nodup_iff_pairwise_ne, List.pairwise_map]
    refine List.Pairwise.imp_of_mem ?_ (List.nodup_iff_pairwise_ne.1 hnd)
    intro a b ha hb hne he
    have h2 := h a ha
    have h3 := h b hb
    apply hne
    obtain ⟨a0, a1, a2⟩ := a
    obtain ⟨b0, b1, b2⟩ := b
    simp only at h2 h3 he
    have e0 : a0 = b0 := by omega
    have e1 : a1 = b1 := by omega
    have e2 : a2 = b2 := by omega
    rw [e0, e1, e2]
  have h2 := List.Nodup.length_le_of_subset h1 (l₂ := List.range 432) (fun y hy => by
    obtain ⟨d, hd, rfl⟩ := List.mem_map.1 hy
    have := h d hd
    rw [List.mem_range]; omega)
  simpa using h2

/-- One hangs on the other, where they are two and there is a first one. -/
def DepM.add (f t k : Int) : List DepM := if f ≠ t ∧ 0 ≤ f then [⟨f, t, k⟩] else []
/-- Writes of an item, of the first m. -/
def DepM.row (l : List Int) (m : Nat) : List DepM := (List.range m).flatMap fun i => DepM.add l[i]! l[i + 1]! 1
theorem DepM.row_succ (l : List Int) (m : Nat) : DepM.row l (m + 1) = DepM.row l m ++ DepM.add l[m]! l[m + 1]! 1 := by
  unfold DepM.row; rw [List.range_succ, List.flatMap_append]; simp
/-- What follows of a read. -/
def DepM.next (tx : Int) (l : List Int) (f : Int) : List DepM := if (IntsM.idx l f + 1).toNat < l.length then DepM.add tx l[(IntsM.idx l f + 1).toNat]! 3 else []
def DepM.got (s : StoL) (tx : Int) (g : EgM) : List DepM := DepM.add g.to_ tx 2 ++ DepM.next tx (s.vrs[g.frm.toNat]!).vs g.to_
def StoL.rows (s : StoL) (k : Nat) : List DepM := (List.range k).flatMap fun i => DepM.row (s.vrs[i]!).vs ((s.vrs[i]!).vs.length - 1)
def StoL.tale (s : StoL) (t : TaleL) (q : Nat) : List DepM := (List.range q).flatMap fun j => DepM.got s t.tx t.gs[j]!
def StoL.tales (s : StoL) (k : Nat) : List DepM := (List.range k).flatMap fun i => s.tale (s.tls[i]!) (s.tls[i]!).gs.length
theorem StoL.rows_succ (s : StoL) (k : Nat) : s.rows (k + 1) = s.rows k ++ DepM.row (s.vrs[k]!).vs ((s.vrs[k]!).vs.length - 1) := by
  unfold StoL.rows; rw [List.range_succ, List.flatMap_append]; simp
theorem StoL.tale_succ (s : StoL) (t : TaleL) (q : Nat) : s.tale t (q + 1) = s.tale t q ++ DepM.got s t.tx t.gs[q]! := by
  unfold StoL.tale; rw [List.range_succ, List.flatMap_append]; simp
theorem StoL.tales_succ (s : StoL) (k : Nat) : s.tales (k + 1) = s.tales k ++ s.tale (s.tls[k]!) (s.tls[k]!).gs.length := by
  unfold StoL.tales; rw [List.range_succ, List.flatMap_append]; simp
def StoL.deps (s : StoL) : List DepM := s.rows s.vrs.length ++ s.tales s.tls.length
/-- What order.Deps tells. -/
def StoL.told (s : StoL) : List DepM := DepM.compact (DepM.sorted s.deps)
theorem StoL.mem_told {s : StoL} {d : DepM} : d ∈ s.told ↔ d ∈ s.deps := by
  unfold StoL.told
  rw [DepM.mem_compact, (DepM.sorted_perm _).mem_iff]
end Go.Proofs.Ytgkclgmekbgjmaa
