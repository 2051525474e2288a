/- Dependencies of right stories: they fit a graph; loops of few kinds are loops of more; an order of them replays the story. -/
import Derived.Test.YtgkclgmekbgjmaaStoM
import Derived.Test.YtgkclgmekbgjmaaIntIdx
import Derived.Shelf.SlSortCmp.Insertion
import Derived.Test.YtgkclgmekbgjmaaGrB
namespace Go.Proofs.Ytgkclgmekbgjmaa
section
open Go.RowKit Go.Lib Go.Sort

structure DepM where
  frm : Int
  to_ : Int
  kind : Int
  deriving DecidableEq, Inhabited

/-- As cells. -/
def dpEnc (p : DepM) : List Value := [.int .i64 p.frm, .int .i64 p.to_, .int .i64 p.kind]
def dpVals (l : List DepM) : List Value := l.flatMap dpEnc
theorem dpVals_len (l : List DepM) : (dpVals l).length = l.length * 3 := by
  induction l with
  | nil => rfl
  | cons o l ih => simp only [dpVals, dpEnc, List.flatMap_cons, List.length_append, List.length_cons, List.length_nil] at *; omega
theorem dpVals_append (a b : List DepM) : dpVals (a ++ b) = dpVals a ++ dpVals b := by simp [dpVals]
theorem dpVals_one (l : List DepM) : ∀ u ∈ dpVals l, u.oneCell' = true := by
  intro u hu
  simp only [dpVals, dpEnc, List.mem_flatMap] at hu
  obtain ⟨o, _, h⟩ := hu
  simp at h
  rcases h with rfl | rfl | rfl <;> rfl
theorem dpVals_at (l : List DepM) : ∀ (k : Nat) (h : k < l.length), (dpVals l)[k * 3]? = some (.int .i64 l[k].frm) ∧ (dpVals l)[k * 3 + 1]? = some (.int .i64 l[k].to_) ∧ (dpVals l)[k * 3 + 2]? = some (.int .i64 l[k].kind) := by
  induction l with
  | nil => intro k h; simp at h
  | cons s l ih =>
    intro k h
    cases k with
    | zero => simp [dpVals, dpEnc]
    | succ k =>
      have := ih k (by simpa using h)
      simp only [dpVals, dpEnc, List.flatMap_cons] at this ⊢
      have e1 : (k + 1) * 3 = k * 3 + 3 := by omega
      have e2 : k * 3 + 3 + 1 = k * 3 + 1 + 3 := by omega
      have e3 : k * 3 + 3 + 2 = k * 3 + 2 + 3 := by omega
      rw [e1, e2, e3]
      simpa using this
theorem dpVals_set (l : List DepM) : ∀ (i : Nat) (x : DepM), i < l.length → ((((dpVals l).set (i * 3) (.int .i64 x.frm)).set (i * 3 + 1) (.int .i64 x.to_)).set (i * 3 + 2) (.int .i64 x.kind)) = dpVals (l.set i x) := by
  induction l with
  | nil => intro i x h; simp at h
  | cons a r ih =>
    intro i x h
    cases i with
    | zero => rfl
    | succ i =>
      have := ih i x (by simpa using h)
      rw [show (i + 1) * 3 = i * 3 + 3 by omega]
      simp only [dpVals, dpEnc, List.flatMap_cons, List.cons_append, List.nil_append, List.set_cons_succ] at this ⊢
      rw [this]
theorem dpVals_take (l : List DepM) : ∀ i, (dpVals l).take (i * 3) = dpVals (l.take i) := by
  induction l with
  | nil => intro i; simp [dpVals]
  | cons a r ih =>
    intro i
    cases i with
    | zero => simp [dpVals]
    | succ i =>
      have := ih i
      rw [show (i + 1) * 3 = i * 3 + 3 by omega]
      simp only [dpVals, dpEnc, List.flatMap_cons, List.cons_append, List.nil_append, List.take_succ_cons] at this ⊢
      rw [this]
/-- They stand where a slice begins. -/
def DpsAt (w : World) (ao : Option Addr) (l : List DepM) : Prop :=
  l = [] ∨ ∃ b off, ao = some ⟨b, off, none⟩ ∧ b < w.heap.size ∧
    ∀ k (h : k < l.length), w.cell? ⟨b, off + k * 3, none⟩ = some (.int .i64 l[k].frm) ∧ w.cell? ⟨b, off + k * 3 + 1, none⟩ = some (.int .i64 l[k].to_) ∧ w.cell? ⟨b, off + k * 3 + 2, none⟩ = some (.int .i64 l[k].kind)
theorem DpsAt.below {B : Nat} {w w' : World} {ao : Option Addr} {l : List DepM} (h : DpsAt w ao l) (hb : Below B w w') (hB : w.heap.size ≤ B) : DpsAt w' ao l := by
  rcases h with h | ⟨b, off, h1, h2, h3⟩
  · exact Or.inl h
  · refine Or.inr ⟨b, off, h1, Nat.lt_of_lt_of_le h2 hb.size, fun k hk => ?_⟩
    obtain ⟨c0, c1, c2⟩ := h3 k hk
    have hl := Nat.lt_of_lt_of_le h2 hB
    exact ⟨(hb.cell (p := ⟨b, off + k * 3, none⟩) hl).trans c0, (hb.cell (p := ⟨b, off + k * 3 + 1, none⟩) hl).trans c1, (hb.cell (p := ⟨b, off + k * 3 + 2, none⟩) hl).trans c2⟩
theorem DpsAt.own {w : World} {base n : Nat} {v : Value} {l : List DepM} (h : w.ownsRow base 106 3 v n (dpVals l)) :
    ∃ ao cap, v = .slice ao l.length cap ∧ n = l.length ∧ DpsAt w ao l ∧ (ao = none → cap = 0) ∧ l.length ≤ cap := by
  have hl : n = l.length := by have := h.1; rw [dpVals_len] at this; omega
  rcases h.2 with ⟨h1, h2⟩ | ⟨g, cap, cur, h1, h2, h3, h4, _⟩
  · have : l = [] := List.eq_nil_of_length_eq_zero (by omega)
    subst this
    exact ⟨none, 0, h1, h2, Or.inl rfl, fun _ => rfl, Nat.le_refl _⟩
  · subst hl
    refine ⟨_, cap, h1, rfl, Or.inr ⟨g, 0, rfl, (Array.getElem?_eq_some_iff.1 h3).1, fun k hk => ?_⟩, (fun h => by simp at h), h4⟩
    have ho := h
    rw [h1] at ho
    obtain ⟨c0, c1, c2⟩ := dpVals_at l k hk
    rw [Nat.zero_add, ho.cellAt (k * 3) (by omega), ho.cellAt (k * 3 + 1) (by omega), ho.cellAt (k * 3 + 2) (by omega)]
    exact ⟨c0, c1, c2⟩

/-- The first of some numbers that is not 0. -/
def orInt : List Int → Int
  | [] => 0
  | a :: r => if a = 0 then orInt r else a
theorem orInt_at : ∀ (l : List Int) (k : Nat) (h : k < l.length), (∀ j (h : j < l.length), j < k → l[j] = 0) → l[k] ≠ 0 → orInt l = l[k]
  | [], k, h, _, _ => by simp at h
  | a :: r, 0, h, _, hne => by
    unfold orInt
    have h0 : a ≠ 0 := hne
    rw [if_neg h0]; rfl
  | a :: r, k + 1, h, hall, hne => by
    unfold orInt
    have h0 : a = 0 := hall 0 (by simp) (by omega)
    rw [if_pos h0]
    exact orInt_at r k (by simpa using h) (fun j hj hlt => hall (j + 1) (by simpa using hj) (by omega)) hne
theorem orInt_zero : ∀ (l : List Int), (∀ j (h : j < l.length), l[j] = 0) → orInt l = 0
  | [], _ => rfl
  | a :: r, h => by
    unfold orInt
    have h0 : a = 0 := h 0 (by simp)
    rw [if_pos h0]
    exact orInt_zero r (fun j hj => h (j + 1) (by simpa using hj))
theorem cmpI_zero {a b : Int} : Lib.compareInt a b = 0 ↔ a = b := by
  unfold Lib.compareInt
  by_cases h1 : a < b
  · simp [h1]; omega
  · by_cases h2 : b < a
    · simp [h1, h2]; omega
    · simp [h1, h2]; omega
def DepM.cf (x y : DepM) : Int := orInt [Lib.compareInt x.frm y.frm, Lib.compareInt x.to_ y.to_, Lib.compareInt x.kind y.kind]
def DepM.lt (x y : DepM) : Prop := x.frm < y.frm ∨ (x.frm = y.frm ∧ (x.to_ < y.to_ ∨ (x.to_ = y.to_ ∧ x.kind < y.kind)))
theorem DepM.ltOf_iff (x y : DepM) : ltOf DepM.cf x y = true ↔ DepM.lt x y := by
  unfold ltOf DepM.cf DepM.lt
  simp only [orInt, cmpI_zero, decide_eq_true_eq]
  have hc : ∀ a b : Int, Lib.compareInt a b < 0 ↔ a < b := by
    intro a b
    unfold Lib.compareInt
    by_cases h1 : a < b
    · simp [h1]
    · by_cases h2 : b < a <;> simp [h1, h2]
  split
  · split
    · split
      · omega
      · rw [hc]; omega
    · rw [hc]; omega
  · rw [hc]; omega
theorem DepM.ltOf_no (x y : DepM) : ltOf DepM.cf x y = false ↔ ¬ DepM.lt x y := by
  rw [← DepM.ltOf_iff]; simp
theorem DepM.swo : SWO (ltOf DepM.cf) where
  irrefl x := by rw [DepM.ltOf_no]; unfold DepM.lt; omega
  trans x y z h1 h2 := by rw [DepM.ltOf_iff] at *; unfold DepM.lt at *; omega
  ntrans x y z h1 h2 := by rw [DepM.ltOf_no] at *; unfold DepM.lt at *; omega
theorem DepM.whole (x y : DepM) (h1 : ltOf DepM.cf x y = false) (h2 : ltOf DepM.cf y x = false) : x = y := by
  rw [DepM.ltOf_no] at h1 h2
  obtain ⟨x0, x1, x2⟩ := x
  obtain ⟨y0, y1, y2⟩ := y
  unfold DepM.lt at h1 h2
  simp only at h1 h2
  have e0 : x0 = y0 := by omega
  have e1 : x1 = y1 := by omega
  have e2 : x2 = y2 := by omega
  rw [e0, e1, e2]
def DepM.sorted (l : List DepM) : List DepM := l.mergeSort fun x y => !(ltOf DepM.cf) y x
theorem DepM.sorted_perm (l : List DepM) : (DepM.sorted l).Perm l := List.mergeSort_perm _ _
theorem DepM.sorted_pair (l : List DepM) : (DepM.sorted l).Pairwise fun x y => ¬ DepM.lt y x := by
  have := List.pairwise_mergeSort (le := fun x y => !(ltOf DepM.cf) y x) (fun a b c h1 h2 => by
      simp only [Bool.not_eq_true', DepM.ltOf_no] at *
      unfold DepM.lt at *; omega) (fun a b => by
      cases h1 : ltOf DepM.cf b a <;> cases h2 : ltOf DepM.cf a b <;> simp
      rw [DepM.ltOf_iff] at h1 h2; unfold DepM.lt at *; omega) l
  exact this.imp (fun h => by rw [Bool.not_eq_true', DepM.ltOf_no] at h; exact h)

/-- Of like neighbours the first alone, of the first m. -/
def DepM.firsts (l : List DepM) (m : Nat) : List DepM := ((List.range m).filter fun j => decide (j = 0 ∨ l[j]! ≠ l[j - 1]!)).map fun j => l[j]!
def DepM.compact (l : List DepM) : List DepM := DepM.firsts l l.length
theorem DepM.firsts_succ (l : List DepM) (m : Nat) : DepM.firsts l (m + 1) = DepM.firsts l m ++ if m = 0 ∨ l[m]! ≠ l[m - 1]! then [l[m]!] else [] := by
  unfold DepM.firsts
  rw [List.range_succ, List.filter_append, List.map_append]
  congr 1
  by_cases h : m = 0 ∨ l[m]! ≠ l[m - 1]!
  · rw [if_pos h, List.filter_cons, if_pos (decide_eq_true h)]; rfl
  · rw [if_neg h, List.filter_cons, if_neg (by rw [decide_eq_true_iff]; exact h)]; rfl
theorem DepM.firsts_len (l : List DepM) (m : Nat) : (DepM.firsts l m).length ≤ m := by
  unfold DepM.firsts
  rw [List.length_map]
  exact Nat.le_trans (List.length_filter_le _ _) (by simp)
theorem DepM.firsts_all (l : List DepM) : ∀ m, m ≤ l.length → (∀ j, 0 < j → j < m → l[j]! ≠ l[j - 1]!) → DepM.firsts l m = l.take m := by
  intro m
  induction m with
  | zero => intro _ _; rfl
  | succ m ih =>
    intro hm h
    rw [DepM.firsts_succ, ih (by omega) (fun j h0 h1 => h j h0 (by omega)), List.take_succ_eq_append_getElem (by omega), if_pos, getElem!_pos l m (by omega)]
    by_cases e : m = 0
    · exact Or.inl e
    · exact Or.inr (h m (by omega) (by omega))
theorem DepM.mem_compact {l : List DepM} {d : DepM} : d ∈ DepM.compact l ↔ d ∈ l := by
  unfold DepM.compact DepM.firsts
  simp only [List.mem_map, List.mem_filter, List.mem_range, decide_eq_true_eq]
  constructor
  · rintro ⟨j, ⟨hj, _⟩, rfl⟩
    rw [getElem!_pos l j hj]
    exact List.getElem_mem hj
  · intro hd
    have key : ∀ j, j < l.length → l[j]! = d → ∃ i, (i < l.length ∧ (i = 0 ∨ l[i]! ≠ l[i - 1]!)) ∧ l[i]! = d := by
      intro j
      induction j with
      | zero => intro hj he; exact ⟨0, ⟨hj, Or.inl rfl⟩, he⟩
      | succ j ih =>
        intro hj he
        by_cases e : l[j + 1]! = l[j]!
        · exact ih (by omega) (by rw [← e]; exact he)
        · exact ⟨j + 1, ⟨hj, Or.inr (by simpa using e)⟩, he⟩
    obtain ⟨j, hj, he⟩ := List.mem_iff_getElem.1 hd
    exact key j hj (by rw [getElem!_pos l j hj]; exact he)
theorem DepM.compact_nodup {l : List DepM} (h : l.Pairwise fun x y => ¬ DepM.lt y x) : (DepM.compact l).Nodup := by
  unfold DepM.compact DepM.firsts
  rw [List.nodup_iff_pairwise_ne, List.pairwise_map, List.pairwise_filter]
  rw [List.pairwise_iff_getElem] at h
  refine List.Pairwise.imp_of_mem ?_ List.pairwise_lt_range
  intro i j hi hj hij hi2 hj2 he
  rw [List.mem_range] at hi hj
  rw [decide_eq_true_eq] at hj2
  have hj3 := hj2.resolve_left (by omega)
  have h1 := h (j - 1) j (by omega) hj (by omega)
  have h2 : ¬ DepM.lt l[j - 1] l[i] := by
    by_cases e : i = j - 1
    · subst e; unfold DepM.lt; omega
    · exact h i (j - 1) hi (by omega) (by omega)
  rw [getElem!_pos l j hj, getElem!_pos l (j - 1) (by omega)] at hj3
  rw [getElem!_pos l i hi, getElem!_pos l j hj] at he
  rw [he] at h2
  exact hj3 (DepM.whole _ _ ((DepM.ltOf_no _ _).2 h1) ((DepM.ltOf_no _ _).2 h2))
theorem DepM.few {l : List DepM} (hnd : l.Nodup) (h : ∀ d ∈ l, 0 ≤ d.frm ∧ d.frm < 12 ∧ 0 ≤ d.to_ ∧ d.to_ < 12 ∧ 1 ≤ d.kind ∧ d.kind ≤ 3) : l.length ≤ 432 := by
  have h1 : (l.map fun d => (d.frm * 36 + d.to_ * 3 + (d.kind - 1)).toNat).Nodup := by
    rw [List.nodup_iff_pairwise_ne, List.pairwise_map]
    refine List.Pairwise.imp_of_mem ?_ (List.nodup_iff_pairwise_ne.1 hnd)
    intro a b ha hb hne he
    have h2 := h a ha
    have h3 := h b hb
    apply hne
    obtain ⟨a0, a1, a2⟩ := a
    obtain ⟨b0, b1, b2⟩ := b
    simp only at h2 h3 he
    have e0 : a0 = b0 := by omega
    have e1 : a1 = b1 := by omega
    have e2 : a2 = b2 := by omega
    rw [e0, e1, e2]
  have h2 := List.Nodup.length_le_of_subset h1 (l₂ := List.range 432) (fun y hy => by
    obtain ⟨d, hd, rfl⟩ := List.mem_map.1 hy
    have := h d hd
    rw [List.mem_range]; omega)
  simpa using h2

/-- One hangs on the other, where they are two and there is a first one. -/
def DepM.add (f t k : Int) : List DepM := if f ≠ t ∧ 0 ≤ f then [⟨f, t, k⟩] else []
/-- Writes of an item, of the first m. -/
def DepM.row (l : List Int) (m : Nat) : List DepM := (List.range m).flatMap fun i => DepM.add l[i]! l[i + 1]! 1
theorem DepM.row_succ (l : List Int) (m : Nat) : DepM.row l (m + 1) = DepM.row l m ++ DepM.add l[m]! l[m + 1]! 1 := by
  unfold DepM.row; rw [List.range_succ, List.flatMap_append]; simp
/-- What follows of a read. -/
def DepM.next (tx : Int) (l : List Int) (f : Int) : List DepM := if (IntsM.idx l f + 1).toNat < l.length then DepM.add tx l[(IntsM.idx l f + 1).toNat]! 3 else []
def DepM.got (s : StoL) (tx : Int) (g : EgM) : List DepM := DepM.add g.to_ tx 2 ++ DepM.next tx (s.vrs[g.frm.toNat]!).vs g.to_
def StoL.rows (s : StoL) (k : Nat) : List DepM := (List.range k).flatMap fun i => DepM.row (s.vrs[i]!).vs ((s.vrs[i]!).vs.length - 1)
def StoL.tale (s : StoL) (t : TaleL) (q : Nat) : List DepM := (List.range q).flatMap fun j => DepM.got s t.tx t.gs[j]!
def StoL.tales (s : StoL) (k : Nat) : List DepM := (List.range k).flatMap fun i => s.tale (s.tls[i]!) (s.tls[i]!).gs.length
theorem StoL.rows_succ (s : StoL) (k : Nat) : s.rows (k + 1) = s.rows k ++ DepM.row (s.vrs[k]!).vs ((s.vrs[k]!).vs.length - 1) := by
  unfold StoL.rows; rw [List.range_succ, List.flatMap_append]; simp
theorem StoL.tale_succ (s : StoL) (t : TaleL) (q : Nat) : s.tale t (q + 1) = s.tale t q ++ DepM.got s t.tx t.gs[q]! := by
  unfold StoL.tale; rw [List.range_succ, List.flatMap_append]; simp
theorem StoL.tales_succ (s : StoL) (k : Nat) : s.tales (k + 1) = s.tales k ++ s.tale (s.tls[k]!) (s.tls[k]!).gs.length := by
  unfold StoL.tales; rw [List.range_succ, List.flatMap_append]; simp
def StoL.deps (s : StoL) : List DepM := s.rows s.vrs.length ++ s.tales s.tls.length
/-- What order.Deps tells. -/
def StoL.told (s : StoL) : List DepM := DepM.compact (DepM.sorted s.deps)
theorem StoL.mem_told {s : StoL} {d : DepM} : d ∈ s.told ↔ d ∈ s.deps := by
  unfold StoL.told
  rw [DepM.mem_compact, (DepM.sorted_perm _).mem_iff]
end
section
open Go.RowKit Go.Lib

theorem DepM.mem_add {f t k : Int} {d : DepM} : d ∈ DepM.add f t k ↔ (f ≠ t ∧ 0 ≤ f) ∧ d = ⟨f, t, k⟩ := by
  unfold DepM.add
  by_cases h : f ≠ t ∧ 0 ≤ f
  · rw [if_pos h, List.mem_singleton]; exact ⟨fun h2 => ⟨h, h2⟩, fun h2 => h2.2⟩
  · rw [if_neg h]; simp; intro h2 h3; exact absurd ⟨h2, h3⟩ h
section
variable {s : StoL}
theorem StoL.Ok.tx (h : s.Ok) {t : TaleL} (ht : t ∈ s.tls) : 0 ≤ t.tx ∧ t.tx < 12 := by
  obtain ⟨i, hi, rfl⟩ := List.mem_iff_getElem.1 ht
  have := h.2.2.1 i hi
  unfold StoL.TaleOk at this
  rw [getElem!_pos s.tls i hi] at this
  exact ⟨this.1, this.2.1⟩
theorem StoL.Ok.wr (h : s.Ok) {k : Nat} (hk : k < s.vrs.length) {x : Int} (hx : x ∈ (s.vrs[k]!).vs) : ∃ t ∈ s.tls, t.tx = x := by
  obtain ⟨i, hi, rfl⟩ := List.mem_iff_getElem.1 hx
  have := (h.2.2.2 k hk i hi).2
  rw [getElem!_pos (s.vrs[k]!).vs i hi] at this
  exact this
theorem StoL.Ok.wrNodup (h : s.Ok) {k : Nat} (hk : k < s.vrs.length) : (s.vrs[k]!).vs.Nodup := by
  rw [List.nodup_iff_pairwise_ne, List.pairwise_iff_getElem]
  intro i j hi hj hij he
  have := (h.2.2.2 k hk j hj).1
  rw [getElem!_pos (s.vrs[k]!).vs j hj] at this
  apply this
  rw [← he]
  exact List.mem_take_iff_getElem.2 ⟨i, by omega, rfl⟩
theorem StoL.Ok.got (h : s.Ok) {t : TaleL} (ht : t ∈ s.tls) {g : EgM} (hg : g ∈ t.gs) : s.GotOk t.tx g := by
  obtain ⟨i, hi, rfl⟩ := List.mem_iff_getElem.1 ht
  have := h.2.2.1 i hi
  unfold StoL.TaleOk at this
  rw [getElem!_pos s.tls i hi] at this
  exact this.2.2.2 g hg
theorem StoL.Ok.rise (h : s.Ok) : s.tls.Pairwise fun a b => a.tx < b.tx := by
  have key : ∀ i j, i < j → j < s.tls.length → (s.tls[i]!).tx < (s.tls[j]!).tx := by
    intro i j
    induction j with
    | zero => intro h1 _; omega
    | succ j ih =>
      intro h1 h2
      have h3 := (h.2.2.1 (j + 1) h2).2.2.1 (by omega)
      simp only [Nat.add_sub_cancel] at h3
      by_cases e : i = j
      · subst e; exact h3
      · have := ih (by omega) (by omega); omega
  rw [List.pairwise_iff_getElem]
  intro i j hi hj hij
  have := key i j hij hj
  rwa [getElem!_pos s.tls i hi, getElem!_pos s.tls j hj] at this
theorem StoL.mem_row {l : List Int} {m : Nat} {d : DepM} : d ∈ DepM.row l m ↔ ∃ i, i < m ∧ d ∈ DepM.add l[i]! l[i + 1]! 1 := by
  unfold DepM.row; simp
theorem StoL.mem_deps {d : DepM} : d ∈ s.deps ↔ (∃ k, k < s.vrs.length ∧ ∃ i, i < (s.vrs[k]!).vs.length - 1 ∧ d ∈ DepM.add (s.vrs[k]!).vs[i]! (s.vrs[k]!).vs[i + 1]! 1) ∨ ∃ t ∈ s.tls, ∃ g ∈ t.gs, d ∈ DepM.got s t.tx g := by
  unfold StoL.deps StoL.rows StoL.tales StoL.tale
  simp only [List.mem_append, List.mem_flatMap, List.mem_range, StoL.mem_row]
  constructor
  · rintro (h | ⟨i, hi, j, hj, hd⟩)
    · exact Or.inl h
    · refine Or.inr ⟨s.tls[i]!, ?_, (s.tls[i]!).gs[j]!, ?_, hd⟩
      · rw [getElem!_pos s.tls i hi]; exact List.getElem_mem hi
      · rw [getElem!_pos (s.tls[i]!).gs j hj]; exact List.getElem_mem hj
  · rintro (h | ⟨t, ht, g, hg, hd⟩)
    · exact Or.inl h
    · obtain ⟨i, hi, rfl⟩ := List.mem_iff_getElem.1 ht
      obtain ⟨j, hj, rfl⟩ := List.mem_iff_getElem.1 hg
      refine Or.inr ⟨i, hi, j, by rw [getElem!_pos s.tls i hi]; exact hj, ?_⟩
      rw [getElem!_pos s.tls i hi, getElem!_pos _ j hj]; exact hd
/-- In a right story they are of transactions that there are. -/
theorem StoL.Ok.fit (h : s.Ok) {d : DepM} (hd : d ∈ s.deps) : ((0 ≤ d.frm ∧ d.frm < 12) ∧ (0 ≤ d.to_ ∧ d.to_ < 12) ∧ 1 ≤ d.kind ∧ d.kind ≤ 3) ∧ d.frm ≠ d.to_ ∧ (∃ t ∈ s.tls, t.tx = d.frm) ∧ ∃ t ∈ s.tls, t.tx = d.to_ := by
  have key : ∀ f t k : Int, (∃ u ∈ s.tls, u.tx = f) → (∃ u ∈ s.tls, u.tx = t) → 1 ≤ k → k ≤ 3 → f ≠ t → ((0 ≤ f ∧ f < 12) ∧ (0 ≤ t ∧ t < 12) ∧ 1 ≤ k ∧ k ≤ 3) ∧ f ≠ t ∧ (∃ u ∈ s.tls, u.tx = f) ∧ ∃ u ∈ s.tls, u.tx = t := by
    intro f t k hf ht h1 h2 h3
    refine ⟨⟨?_, ?_, h1, h2⟩, h3, hf, ht⟩
    · obtain ⟨u, hu, rfl⟩ := hf; exact h.tx hu
    · obtain ⟨u, hu, rfl⟩ := ht; exact h.tx hu
  rcases StoL.mem_deps.1 hd with ⟨k, hk, i, hi, hd⟩ | ⟨t, ht, g, hg, hd⟩
  · obtain ⟨h1, rfl⟩ := DepM.mem_add.1 hd
    refine key _ _ _ (h.wr hk ?_) (h.wr hk ?_) (by show (1:Int) ≤ _; simp) (by show _ ≤ (3:Int); simp) h1.1
    · rw [getElem!_pos (s.vrs[k]!).vs i (by omega)]; exact List.getElem_mem _
    · rw [getElem!_pos (s.vrs[k]!).vs (i + 1) (by omega)]; exact List.getElem_mem _
  · have hG := h.got ht hg
    have hvk : g.frm.toNat < s.vrs.length := by have := hG.1; have := hG.2.1; omega
    unfold DepM.got at hd
    rcases List.mem_append.1 hd with hd | hd
    · obtain ⟨h1, rfl⟩ := DepM.mem_add.1 hd
      refine key _ _ _ ?_ ⟨t, ht, rfl⟩ (by show (1:Int) ≤ _; simp) (by show _ ≤ (3:Int); simp) h1.1
      rcases hG.2.2.2 with h2 | h2
      · omega
      · exact h.wr hvk h2
    · unfold DepM.next at hd
      split at hd
      · rename_i hlt
        obtain ⟨h1, rfl⟩ := DepM.mem_add.1 hd
        refine key _ _ _ ⟨t, ht, rfl⟩ (h.wr hvk ?_) (by show (1:Int) ≤ _; simp) (by show _ ≤ (3:Int); simp) h1.1
        rw [getElem!_pos (s.vrs[g.frm.toNat]!).vs _ hlt]; exact List.getElem_mem hlt
      · simp at hd
end

/-- The edges of those of no more than some kind. -/
def DepM.eg (d : DepM) : EgM := ⟨d.frm, d.to_⟩
def StoL.edges (s : StoL) (most : Int) : List EgM := (s.told.filter fun d => decide (d.kind ≤ most)).map DepM.eg
theorem StoL.Ok.check {s : StoL} (h : s.Ok) (most : Int) : GrM.check 12 (s.edges most) = 0 := by
  have h1 : s.told.length ≤ 432 := DepM.few (DepM.compact_nodup (DepM.sorted_pair _)) (fun d hd => by
    have := (h.fit (StoL.mem_told.1 hd)).1; omega)
  have h2 : (s.edges most).length ≤ 432 := by
    unfold StoL.edges
    rw [List.length_map]
    exact Nat.le_trans (List.length_filter_le _ _) h1
  unfold GrM.check
  rw [if_neg (by omega), if_neg (by omega), if_pos]
  unfold GrM.formOk
  rw [List.all_eq_true]
  intro e he
  unfold StoL.edges at he
  obtain ⟨d, hd, rfl⟩ := List.mem_map.1 he
  have := (h.fit (StoL.mem_told.1 (List.mem_filter.1 hd).1)).1
  exact decide_eq_true (by unfold DepM.eg; simp only; omega)
theorem StoL.edges_all {s : StoL} (h : s.Ok) : s.edges 3 = s.told.map DepM.eg := by
  unfold StoL.edges
  rw [List.filter_eq_self.2]
  intro d hd
  have := (h.fit (StoL.mem_told.1 hd)).1
  exact decide_eq_true (by omega)
theorem StoL.E_mono {s : StoL} {m n : Int} (hmn : m ≤ n) {a b : Nat} (h : GrM.E (s.edges m) a b = true) : GrM.E (s.edges n) a b = true := by
  rw [GrM.E_iff] at h ⊢
  unfold StoL.edges at h ⊢
  obtain ⟨d, hd, he⟩ := List.mem_map.1 h
  obtain ⟨h1, h2⟩ := List.mem_filter.1 hd
  refine List.mem_map.2 ⟨d, List.mem_filter.2 ⟨h1, decide_eq_true ?_⟩, he⟩
  have := of_decide_eq_true h2; omega
def StoL.loop (s : StoL) (most : Int) : Bool := (GrM.order 12 (s.edges most)).isNone
theorem StoL.loop_mono {s : StoL} {m n : Int} (hmn : m ≤ n) (h : s.loop m = true) : s.loop n = true := by
  unfold StoL.loop at h ⊢
  rw [Option.isNone_iff_eq_none] at h ⊢
  rw [GrM.order_none_iff] at h ⊢
  obtain ⟨a, ha, hp⟩ := h
  refine ⟨a, ha, ?_⟩
  have key : ∀ {x y}, GrM.Path 12 (s.edges m) x y → GrM.Path 12 (s.edges n) x y := by
    intro x y hp
    induction hp with
    | one h1 h2 => exact .one h1 (StoL.E_mono hmn h2)
    | more _ h1 h2 ih => exact .more ih h1 (StoL.E_mono hmn h2)
  exact key hp

/-- Is it told of? -/
def StoL.isTold (s : StoL) (k : Int) : Bool := s.tls.any fun t => t.tx == k
def StoL.turn (s : StoL) (r : List Nat) : List Int := (GrM.ints r).filter fun k => s.isTold k
theorem StoL.isTold_iff {s : StoL} {k : Int} : s.isTold k = true ↔ ∃ t ∈ s.tls, t.tx = k := by
  unfold StoL.isTold; rw [List.any_eq_true]; simp only [beq_iff_eq]
/-- One behind another, each behind those on which it hangs. -/
structure StoL.Topo (s : StoL) (t : List Int) : Prop where
  nodup : t.Nodup
  mem : ∀ k, k ∈ t ↔ ∃ u ∈ s.tls, u.tx = k
  deps : ∀ d ∈ s.deps, ∀ q (h : q < t.length), t[q] = d.to_ → d.frm ∈ t.take q
theorem StoL.topo {s : StoL} (h : s.Ok) {r : List Nat} (hr : GrM.order 12 (s.edges 3) = some r) : s.Topo (s.turn r) := by
  obtain ⟨hO, hl⟩ := GrM.order_ok hr
  have hnd : (s.turn r).Nodup := by
    unfold StoL.turn
    rw [List.nodup_iff_pairwise_ne]
    refine List.Pairwise.filter _ ?_
    unfold GrM.ints
    rw [List.pairwise_map]
    exact (List.nodup_iff_pairwise_ne.1 hO.nodup).imp (fun h e => h (by omega))
  have hmem : ∀ k, k ∈ s.turn r ↔ ∃ u ∈ s.tls, u.tx = k := by
    intro k
    unfold StoL.turn
    rw [List.mem_filter, StoL.isTold_iff]
    refine ⟨fun h2 => h2.2, fun h2 => ⟨?_, h2⟩⟩
    obtain ⟨u, hu, rfl⟩ := h2
    have := h.tx hu
    unfold GrM.ints
    refine List.mem_map.2 ⟨u.tx.toNat, ?_, by omega⟩
    have hall := List.Nodup.length_le_of_subset (l₁ := u.tx.toNat :: r) (l₂ := List.range 12)
    refine Classical.byContradiction fun hno => ?_
    have := hall (List.nodup_cons.2 ⟨hno, hO.nodup⟩) (fun x hx => by
      rcases List.mem_cons.1 hx with rfl | hx
      · rw [List.mem_range]; omega
      · exact List.mem_range.2 (hO.lt x hx))
    simp at this; omega
  have hpw : (s.turn r).Pairwise fun a b => ¬ ∃ d ∈ s.deps, d.frm = b ∧ d.to_ = a := by
    unfold StoL.turn
    refine List.Pairwise.filter _ ?_
    unfold GrM.ints
    rw [List.pairwise_map, List.pairwise_iff_getElem]
    rintro i j hi hj hij ⟨d, hd, h1, h2⟩
    have hE : GrM.E (s.edges 3) r[j] r[i] = true := by
      rw [GrM.E_iff, StoL.edges_all h]
      exact List.mem_map.2 ⟨d, StoL.mem_told.2 hd, by unfold DepM.eg; rw [h1, h2]⟩
    have := hO.forward j i hj hi hE
    omega
  refine ⟨hnd, hmem, fun d hd q hq he => ?_⟩
  obtain ⟨_, hne, hf, _⟩ := h.fit hd
  obtain ⟨i, hi, hie⟩ := List.mem_iff_getElem.1 ((hmem d.frm).2 hf)
  have h3 : i < q := by
    refine Classical.byContradiction fun hno => ?_
    by_cases e : i = q
    · subst e; exact hne (hie.symm.trans he)
    · exact List.pairwise_iff_getElem.1 hpw q i hq hi (by omega) ⟨d, hd, hie.symm, he.symm⟩
  exact List.mem_take_iff_getElem.2 ⟨i, by omega, hie⟩
theorem StoL.Topo.len {s : StoL} (h : s.Ok) {t : List Int} (ht : s.Topo t) : t.length = s.tls.length := by
  have hnd : (s.tls.map fun u => u.tx).Nodup := by
    rw [List.nodup_iff_pairwise_ne, List.pairwise_map]
    exact h.rise.imp (fun h => by omega)
  have h1 := List.Nodup.length_le_of_subset ht.nodup (l₂ := s.tls.map fun u => u.tx) (fun x hx => by
    obtain ⟨u, hu, rfl⟩ := (ht.mem x).1 hx
    exact List.mem_map.2 ⟨u, hu, rfl⟩)
  have h2 := List.Nodup.length_le_of_subset hnd (l₂ := t) (fun x hx => by
    obtain ⟨u, hu, rfl⟩ := List.mem_map.1 hx
    exact (ht.mem _).2 ⟨u, hu, rfl⟩)
  simp at h1 h2; omega
/-- What an item's last write is, of those that are done. -/
def StoL.lastOf (l : List Int) (done : List Int) : Int := ((l.filter fun x => decide (x ∈ done)).getLast?).getD (-1)
theorem StoL.front_of {l D : List Int} (hstep : ∀ j (hj : j + 1 < l.length), l[j + 1] ∈ D → l[j]'(by omega) ∈ D) : ∃ m, m ≤ l.length ∧ ∀ j (hj : j < l.length), l[j] ∈ D ↔ j < m := by
  have key : ∀ n, n ≤ l.length → ∃ m, m ≤ n ∧ ∀ j (hj : j < l.length), j < n → (l[j] ∈ D ↔ j < m) := by
    intro n
    induction n with
    | zero => intro _; exact ⟨0, Nat.le_refl _, fun j _ h => by omega⟩
    | succ n ih =>
      intro hn
      obtain ⟨m, hm, hall⟩ := ih (by omega)
      by_cases hin : l[n] ∈ D
      · refine ⟨n + 1, Nat.le_refl _, fun j hj hjn => ⟨fun _ => hjn, fun _ => ?_⟩⟩
        have down : ∀ d j, j + d = n → (hj : j < l.length) → l[j] ∈ D := by
          intro d
          induction d with
          | zero => intro j e hj; obtain rfl : j = n := by omega
                    exact hin
          | succ d ih2 => intro j e hj; exact hstep j (by omega) (ih2 (j + 1) (by omega) (by omega))
        exact down (n - j) j (by omega) hj
      · refine ⟨m, by omega, fun j hj hjn => ?_⟩
        by_cases e : j = n
        · subst e; exact ⟨fun h => absurd h hin, fun h => by omega⟩
        · exact hall j hj (by omega)
  obtain ⟨m, hm, hall⟩ := key l.length (Nat.le_refl _)
  exact ⟨m, hm, fun j hj => hall j hj hj⟩
section
variable {s : StoL} {t : List Int}
/-- Of an item's writes a beginning is done. -/
theorem StoL.Topo.front (h : s.Ok) (ht : s.Topo t) {k : Nat} (hk : k < s.vrs.length) (q : Nat) : ∃ m, m ≤ (s.vrs[k]!).vs.length ∧ ∀ j (hj : j < (s.vrs[k]!).vs.length), (s.vrs[k]!).vs[j] ∈ t.take q ↔ j < m := by
  have hstep : ∀ j (hj : j + 1 < (s.vrs[k]!).vs.length), (s.vrs[k]!).vs[j + 1] ∈ t.take q → (s.vrs[k]!).vs[j]'(by omega) ∈ t.take q := by
    intro j hj hm
    obtain ⟨p, hp, hpe⟩ := List.mem_take_iff_getElem.1 hm
    have hne : (s.vrs[k]!).vs[j]'(by omega) ≠ (s.vrs[k]!).vs[j + 1] := by
      have := List.pairwise_iff_getElem.1 (List.nodup_iff_pairwise_ne.1 (h.wrNodup hk)) j (j + 1) (by omega) hj (by omega)
      exact this
    have h0 : 0 ≤ (s.vrs[k]!).vs[j]'(by omega) := by
      obtain ⟨u, hu, he⟩ := h.wr hk (List.getElem_mem (by omega : j < (s.vrs[k]!).vs.length))
      rw [← he]; exact (h.tx hu).1
    have hd : (⟨(s.vrs[k]!).vs[j]'(by omega), (s.vrs[k]!).vs[j + 1], 1⟩ : DepM) ∈ s.deps := StoL.mem_deps.2 (Or.inl ⟨k, hk, j, by omega, by
      rw [DepM.mem_add, getElem!_pos (s.vrs[k]!).vs j (by omega), getElem!_pos (s.vrs[k]!).vs (j + 1) hj]
      exact ⟨⟨hne, h0⟩, rfl⟩⟩)
    have := ht.deps _ hd p (by omega) hpe
    obtain ⟨i, hi, hie⟩ := List.mem_take_iff_getElem.1 this
    exact List.mem_take_iff_getElem.2 ⟨i, by omega, hie⟩
  exact StoL.front_of hstep
theorem StoL.lastOf_front {l D : List Int} {m : Nat} (hm : m ≤ l.length) (h : ∀ j (hj : j < l.length), l[j] ∈ D ↔ j < m) : StoL.lastOf l D = if m = 0 then -1 else l[m - 1]! := by
  have h1 : (l.filter fun x => decide (x ∈ D)) = l.take m := by
    have h2 : (l.take m ++ l.drop m).filter (fun x => decide (x ∈ D)) = l.take m := by
      rw [List.filter_append, List.filter_eq_self.2, List.filter_eq_nil_iff.2, List.append_nil]
      · intro x hx
        obtain ⟨j, hj, rfl⟩ := List.mem_iff_getElem.1 hx
        rw [List.length_drop] at hj
        rw [List.getElem_drop, decide_eq_true_eq, h]
        omega
      · intro x hx
        obtain ⟨j, hj, rfl⟩ := List.mem_iff_getElem.1 hx
        rw [List.length_take] at hj
        rw [List.getElem_take, decide_eq_true_eq, h]
        omega
    rwa [List.take_append_drop] at h2
  unfold StoL.lastOf
  rw [h1]
  by_cases e : m = 0
  · rw [if_pos e, e]; rfl
  · rw [if_neg e, List.getLast?_eq_getElem?, List.length_take, Nat.min_eq_left hm, List.getElem?_take_of_lt (by omega), List.getElem?_eq_getElem (by omega), getElem!_pos l (m - 1) (by omega)]; rfl
theorem IntsM.idx_at {l : List Int} (hnd : l.Nodup) {j : Nat} (hj : j < l.length) : IntsM.idx l l[j] = j := by
  have : l.findIdx (fun y => l[j] == y) = j := by
    rw [List.findIdx_eq hj]
    refine ⟨by simp, fun i hi => ?_⟩
    have := List.pairwise_iff_getElem.1 (List.nodup_iff_pairwise_ne.1 hnd) i j (by omega) hj hi
    simpa using fun h => this h.symm
  unfold IntsM.idx IntsM.find
  rw [this, if_pos hj]
theorem IntsM.idx_none {l : List Int} {x : Int} (h : x ∉ l) : IntsM.idx l x = -1 := by
  unfold IntsM.idx IntsM.find
  rw [if_neg]
  intro h2
  have h3 := List.findIdx_getElem (w := h2)
  apply h
  have h4 := beq_iff_eq.1 h3
  rw [h4]; exact List.getElem_mem _
/-- Each reads what it read. -/
theorem StoL.Topo.reads (h : s.Ok) (ht : s.Topo t) {q : Nat} (hq : q < t.length) {u : TaleL} (hu : u ∈ s.tls) (hux : u.tx = t[q]) {g : EgM} (hg : g ∈ u.gs) : StoL.lastOf (s.vrs[g.frm.toNat]!).vs (t.take q) = g.to_ := by
  have hG := h.got hu hg
  have hk : g.frm.toNat < s.vrs.length := by have := hG.1; have := hG.2.1; omega
  have hd0 : ∀ d ∈ DepM.got s u.tx g, d ∈ s.deps := fun d hd => StoL.mem_deps.2 (Or.inr ⟨u, hu, g, hg, hd⟩)
  obtain ⟨m, hm, hall⟩ := ht.front h hk q
  rw [StoL.lastOf_front hm hall]
  have hnd := h.wrNodup hk
  have hu0 := h.tx hu
  have hself : t[q] ∉ t.take q := by
    intro hin
    obtain ⟨i, hi, he⟩ := List.mem_take_iff_getElem.1 hin
    exact List.pairwise_iff_getElem.1 (List.nodup_iff_pairwise_ne.1 ht.nodup) i q (by omega) hq (by omega) he
  -- the one behind is not done
  have hnext : ∀ p, (IntsM.idx (s.vrs[g.frm.toNat]!).vs g.to_ + 1).toNat = p → (hp : p < (s.vrs[g.frm.toNat]!).vs.length) → (s.vrs[g.frm.toNat]!).vs[p] ∉ t.take q := by
    intro p hpe hp hin
    by_cases e : u.tx = (s.vrs[g.frm.toNat]!).vs[p]
    · rw [← e, hux] at hin; exact hself hin
    · have hd : (⟨u.tx, (s.vrs[g.frm.toNat]!).vs[p], 3⟩ : DepM) ∈ s.deps := hd0 _ (by
        unfold DepM.got DepM.next
        rw [List.mem_append]
        right
        rw [hpe, if_pos hp, DepM.mem_add, getElem!_pos _ p hp]
        exact ⟨⟨e, hu0.1⟩, rfl⟩)
      obtain ⟨i, hi, he⟩ := List.mem_take_iff_getElem.1 hin
      have := ht.deps _ hd i (by omega) he
      rw [hux] at this
      obtain ⟨i2, hi2, he2⟩ := List.mem_take_iff_getElem.1 this
      exact List.pairwise_iff_getElem.1 (List.nodup_iff_pairwise_ne.1 ht.nodup) i2 q (by omega) hq (by omega) he2
  rcases hG.2.2.2 with h2 | h2
  · have hno : g.to_ ∉ (s.vrs[g.frm.toNat]!).vs := by
      intro hin
      obtain ⟨v, hv, he⟩ := h.wr hk hin
      have := (h.tx hv).1; omega
    have hm0 : m = 0 := by
      refine Classical.byContradiction fun hne => ?_
      have hl : 0 < (s.vrs[g.frm.toNat]!).vs.length := by omega
      exact hnext 0 (by rw [IntsM.idx_none hno]; rfl) hl ((hall 0 hl).2 (by omega))
    rw [if_pos hm0, h2]
  · obtain ⟨j, hj, he⟩ := List.mem_iff_getElem.1 h2
    have hidx : IntsM.idx (s.vrs[g.frm.toNat]!).vs g.to_ = j := by rw [← he]; exact IntsM.idx_at hnd hj
    have h0 : 0 ≤ g.to_ := by
      obtain ⟨v, hv, he⟩ := h.wr hk h2
      rw [← he]; exact (h.tx hv).1
    have hd : (⟨g.to_, u.tx, 2⟩ : DepM) ∈ s.deps := hd0 _ (by
      unfold DepM.got
      rw [List.mem_append]
      left
      rw [DepM.mem_add]
      exact ⟨⟨hG.2.2.1, h0⟩, rfl⟩)
    have hin := ht.deps _ hd q hq hux.symm
    have hjm : j < m := (hall j hj).1 (by rw [he]; exact hin)
    have hmj : m = j + 1 := by
      refine Classical.byContradiction fun hne => ?_
      have hl : j + 1 < (s.vrs[g.frm.toNat]!).vs.length := by omega
      exact hnext (j + 1) (by rw [hidx]; rfl) hl ((hall (j + 1) hl).2 (by omega))
    rw [if_neg (by omega), hmj, Nat.add_sub_cancel, getElem!_pos (s.vrs[g.frm.toNat]!).vs j hj, he]
/-- Each writes behind the one that it wrote behind. -/
theorem StoL.Topo.writes (h : s.Ok) (ht : s.Topo t) {q : Nat} (hq : q < t.length) {k : Nat} (hk : k < s.vrs.length) :
    (t[q] ∉ (s.vrs[k]!).vs ∧ IntsM.idx (s.vrs[k]!).vs t[q] = -1 ∧ StoL.lastOf (s.vrs[k]!).vs (t.take (q + 1)) = StoL.lastOf (s.vrs[k]!).vs (t.take q)) ∨
    ∃ j, j < (s.vrs[k]!).vs.length ∧ IntsM.idx (s.vrs[k]!).vs t[q] = (j : Int) ∧ StoL.lastOf (s.vrs[k]!).vs (t.take q) = (if j = 0 then -1 else (s.vrs[k]!).vs[j - 1]!) ∧ StoL.lastOf (s.vrs[k]!).vs (t.take (q + 1)) = t[q] := by
  have hnd := h.wrNodup hk
  obtain ⟨m, hm, hall⟩ := ht.front h hk q
  obtain ⟨m2, hm2, hall2⟩ := ht.front h hk (q + 1)
  have hself : t[q] ∉ t.take q := by
    intro hin
    obtain ⟨i, hi, he⟩ := List.mem_take_iff_getElem.1 hin
    exact List.pairwise_iff_getElem.1 (List.nodup_iff_pairwise_ne.1 ht.nodup) i q (by omega) hq (by omega) he
  rw [StoL.lastOf_front hm hall, StoL.lastOf_front hm2 hall2]
  have htk : t.take (q + 1) = t.take q ++ [t[q]] := List.take_succ_eq_append_getElem hq
  by_cases hin : t[q] ∈ (s.vrs[k]!).vs
  · obtain ⟨j, hj, he⟩ := List.mem_iff_getElem.1 hin
    refine Or.inr ⟨j, hj, by rw [← he]; exact IntsM.idx_at hnd hj, ?_⟩
    have h1 : ¬ j < m := fun h1 => hself (by rw [← he]; exact (hall j hj).2 h1)
    have h2 : j < m2 := (hall2 j hj).1 (by rw [he, htk]; exact List.mem_append_right _ (List.mem_singleton.2 rfl))
    have hmj : m = j := by
      refine Classical.byContradiction fun hne => ?_
      have hl : m < (s.vrs[k]!).vs.length := by omega
      have h3 : (s.vrs[k]!).vs[m] ∈ t.take (q + 1) := (hall2 m hl).2 (by omega)
      rw [htk, List.mem_append, List.mem_singleton] at h3
      rcases h3 with h3 | h3
      · have := (hall m hl).1 h3; omega
      · rw [← he] at h3
        exact List.pairwise_iff_getElem.1 (List.nodup_iff_pairwise_ne.1 hnd) m j hl hj (by omega) h3
    have hm2j : m2 = j + 1 := by
      refine Classical.byContradiction fun hne => ?_
      have hl : j + 1 < (s.vrs[k]!).vs.length := by omega
      have h3 : (s.vrs[k]!).vs[j + 1] ∈ t.take (q + 1) := (hall2 (j + 1) hl).2 (by omega)
      rw [htk, List.mem_append, List.mem_singleton] at h3
      rcases h3 with h3 | h3
      · have := (hall (j + 1) hl).1 h3; omega
      · rw [← he] at h3
        exact List.pairwise_iff_getElem.1 (List.nodup_iff_pairwise_ne.1 hnd) j (j + 1) hj hl (by omega) h3.symm
    rw [hmj, hm2j]
    refine ⟨rfl, ?_⟩
    rw [if_neg (by omega), Nat.add_sub_cancel, getElem!_pos (s.vrs[k]!).vs j hj, he]
  · refine Or.inl ⟨hin, IntsM.idx_none hin, ?_⟩
    have hmm : m2 = m := by
      have h1 : ∀ j (hj : j < (s.vrs[k]!).vs.length), (j < m2 ↔ j < m) := by
        intro j hj
        rw [← hall2 j hj, ← hall j hj, htk, List.mem_append, List.mem_singleton]
        constructor
        · rintro (h3 | h3)
          · exact h3
          · exact absurd (by rw [← h3]; exact List.getElem_mem hj) hin
        · exact Or.inl
      refine Classical.byContradiction fun hne => ?_
      rcases Nat.lt_or_ge m m2 with h2 | h2
      · have := (h1 m (by omega)).1 h2; omega
      · have := (h1 m2 (by omega)).2 (by omega); omega
    rw [hmm]
end
end
end Go.Proofs.Ytgkclgmekbgjmaa
