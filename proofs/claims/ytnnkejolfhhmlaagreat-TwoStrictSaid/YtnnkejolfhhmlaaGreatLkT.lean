/- Tables of locks that the call owns. -/
import Derived.Test.YtnnkejolfhhmlaaGreatLkI
import Derived.Deep.DeepMust
import Derived.Lib.LazyBuf
import Derived.Test.YtnnkejolfhhmlaaGreatLkGl
namespace Go.Proofs.YtnnkejolfhhmlaaGreat
section
open Go.RowKit Go.Lib

set_option maxRecDepth 20000 in
set_option maxHeartbeats 2000000 in
theorem clone_lks (l : List LkM) (ao : Option Addr) (cap : Nat) (w : World) (h : LksAt w ao l) (hnil : ao = none → cap = 0) (hn : l.length ≤ 1000000000) :
    Calls Tryz.prog 101 #[.slice ao l.length cap] w fun e w' => (∃ v, e = .returned v ∧ w'.ownsRow w.heap.size 137 2 v l.length (lkVals l)) ∧ Below w.heap.size w w' := by
  have H := box h
  clear h
  have q0 := fun (w : World) (a : Option Addr) (n c : Nat) => _root_.Go.run_eql_slice_nil (P := Tryz.prog) w 132 137 a n c Tryz.underlying132
  cases ao with
  | none =>
    have hl : l = [] := H.out.resolve_right (by rintro ⟨b, off, h, _⟩; cases h)
    have hc := hnil rfl
    subst hl
    subst hc
    go_enter Tryz.func101, Tryz.ntmps101
    go_wp2_with fail
    go_ret
    exact ⟨⟨_, rfl, World.ownsRow_nil _ _ _ _⟩, Below.refl _ _⟩
  | some ad =>
    obtain ⟨i0, hi0, hz0, hz1, hz2⟩ := info_parts Tryz.infoLk
    have Hcs : Box (∀ wx, Below w.heap.size w wx → ∀ j u, (lkVals l)[j]? = some u → wx.cell? (ad.add j) = some u) := ⟨fun wx hx j u hu => by
      rcases H.out with h | ⟨b, off, h1, h2, h3⟩
      · subst h; simp [lkVals] at hu
      · injection h1 with h1
        subst h1
        have hj : j < l.length * 2 := by have := (List.getElem?_eq_some_iff.1 hu).1; rw [lkVals_len] at this; exact this
        rw [Addr.add_lit]
        refine (hx.cell (p := ⟨b, off + j, none⟩) h2).trans ?_
        have hk : j / 2 < l.length := by omega
        obtain ⟨a0, a1⟩ := lkVals_at l (j / 2) hk
        obtain ⟨c0, c1⟩ := h3 (j / 2) hk
        rcases Nat.mod_two_eq_zero_or_one j with e | e
        · have ej : j / 2 * 2 = j := by omega
          rw [ej] at a0 c0
          rw [c0, ← a0, hu]
        · have ej : j / 2 * 2 + 1 = j := by omega
          rw [ej] at a1
          rw [show off + j / 2 * 2 + 1 = off + j by omega] at c1
          rw [c1, ← a1, hu]⟩
    clear hnil
    go_enter Tryz.func101, Tryz.ntmps101
    have hown := World.ownsRow_lit (base := w.heap.size) (e := 137) (size := 2) w #[] 0 (Nat.le_refl _) (Nat.zero_le _) rfl
    have HB := box ((Below.refl w.heap.size w).alloc (Nat.le_refl _) (.cells #[] 137))
    go_wp2_with (at_builtin; go_must (refine wpList_append_own _ rfl _ _ 132 rfl w.heap.size 137 i0 _ 2 16 Tryz.underlying132 hi0 hz0 hz1 hz2 rfl (by decide) _ _ _ rfl hown ad l.length cap (lkVals l) rfl (lkVals_len l) (Hcs.out _ HB.out) (lkVals_one l) (by unfold maxLen; omega) (by omega) (by simp) ?_))
    intro v' w9 hown3 hgrow _
    have HB9 := box (HB.out.grown hgrow (by simp) (fun j hj => by have := hown.lt j hj; omega))
    clear hgrow hown
    go_wp2_with fail
    go_ret
    exact ⟨⟨_, rfl, by simpa using hown3⟩, HB9.out⟩

/-- Function g, with lb behind, tells p of an operation, in world W; it may lay blocks. -/
def TellsBk (g : Nat) (lb : Array Value) (p : LkM → Bool) (W : World) (o : LkM) : Prop := Calls Tryz.prog g (#[.agg #[.int .i64 o.tx, .int .i64 o.mode]] ++ lb) W fun e w' => e = .returned (.bool (p o)) ∧ Below W.heap.size W w'
def BksM.find (p : LkM → Bool) (l : List LkM) : Int := if l.findIdx p < l.length then (l.findIdx p : Int) else -1
end
section
open Go.RowKit Go.Lib

theorem Fam.newRow {w w' : World} {base N e size k n' : Nat} {v : Nat → Value} {m : Nat → Nat} {xs : Nat → List Value} {v' : Value} {ys : List Value} (h : Fam w base N e size v m xs)
    (ho : w'.ownsRow base e size v' n' ys) (hb : Below w.heap.size w w') (hat : ∀ g, v'.ownBlock = some g → w.heap.size ≤ g) : Fam w' base N e size (upd v k v') (upd m k n') (upd xs k ys) := by
  have hlt : ∀ i, i < N → ∀ g, (v i).ownBlock = some g → g < w.heap.size := fun i hi g hg => ((h.own i hi).lt g hg).2
  refine ⟨fun i hi => ?_, fun i j hi hj hij g h1 => ?_⟩
  · by_cases e : i = k
    · subst e; rw [upd_same, upd_same, upd_same]; exact ho
    · rw [upd_other _ _ e, upd_other _ _ e, upd_other _ _ e]
      exact ownsRow_below (h.own i hi) hb
  · by_cases ei : i = k
    · subst ei
      rw [upd_same] at h1
      rw [upd_other _ _ (Ne.symm hij)]
      intro h3
      have := hlt j hj g h3
      have := hat g h1
      omega
    · rw [upd_other _ _ ei] at h1
      by_cases ej : j = k
      · subst ej
        rw [upd_same]
        intro h3
        have := hlt i hi g h1
        have := hat g h3
        omega
      · rw [upd_other _ _ ej]
        exact h.apart i j hi hj hij g h1
theorem Fam.turned {w : World} {base N e size k n' : Nat} {v : Nat → Value} {m : Nat → Nat} {xs : Nat → List Value} {v' : Value} {ys : List Value} (h : Fam w base N e size v m xs) (hk : k < N)
    (ho : w.ownsRow base e size v' n' ys) (hat : v'.ownBlock = (v k).ownBlock) : Fam w base N e size (upd v k v') (upd m k n') (upd xs k ys) := by
  refine ⟨fun i hi => ?_, fun i j hi hj hij g h1 => ?_⟩
  · by_cases e : i = k
    · subst e; rw [upd_same, upd_same, upd_same]; exact ho
    · rw [upd_other _ _ e, upd_other _ _ e, upd_other _ _ e]; exact h.own i hi
  · have hv : ∀ a, (upd v k v' a).ownBlock = (v a).ownBlock := fun a => by
      by_cases e : a = k
      · subst e; rw [upd_same]; exact hat
      · rw [upd_other _ _ e]
    rw [hv] at h1 ⊢
    exact h.apart i j hi hj hij g h1
theorem Fam.alike {w : World} {base N e size : Nat} {v v' : Nat → Value} {m m' : Nat → Nat} {xs xs' : Nat → List Value} (h : Fam w base N e size v m xs) (h1 : ∀ i, i < N → v' i = v i) (h2 : ∀ i, i < N → m' i = m i) (h3 : ∀ i, i < N → xs' i = xs i) : Fam w base N e size v' m' xs' :=
  ⟨fun i hi => by rw [h1 i hi, h2 i hi, h3 i hi]; exact h.own i hi, fun i j hi hj hij g hg => by rw [h1 i hi] at hg; rw [h1 j hj]; exact h.apart i j hi hj hij g hg⟩

theorem row_ne {w : World} {b1 e1 s1 n1 b2 e2 s2 n2 : Nat} {v1 v2 : Value} {x1 x2 : List Value} (h1 : w.ownsRow b1 e1 s1 v1 n1 x1) (h2 : w.ownsRow b2 e2 s2 v2 n2 x2) (he : e1 ≠ e2) : v1.ownBlock = none ∨ v1.ownBlock ≠ v2.ownBlock := by
  cases hb : v1.ownBlock with
  | none => exact Or.inl rfl
  | some b =>
    refine Or.inr fun hb2 => ?_
    rcases h1.2 with ⟨rfl, _⟩ | ⟨g, cap, cur, rfl, _, hg, _⟩
    · simp [Value.ownBlock] at hb
    · simp [Value.ownBlock] at hb
      subst hb
      rcases h2.2 with ⟨rfl, _⟩ | ⟨g2, cap2, cur2, rfl, _, hg2, _⟩
      · simp [Value.ownBlock] at hb2
      · simp [Value.ownBlock] at hb2
        subst hb2
        rw [hg] at hg2
        injection hg2 with e
        injection e with _ e
        exact he e
/-- A row is put in place k. -/
theorem Fam.addRow {w : World} {base N e size k n' : Nat} {v : Nat → Value} {m : Nat → Nat} {xs : Nat → List Value} {v' : Value} {ys : List Value} (h : Fam w base N e size v m xs)
    (ho : w.ownsRow base e size v' n' ys) (hne : ∀ i, i < N → i ≠ k → ∀ g, v'.ownBlock = some g → (v i).ownBlock ≠ some g) : Fam w base N e size (upd v k v') (upd m k n') (upd xs k ys) := by
  refine ⟨fun i hi => ?_, fun i j hi hj hij g h1 => ?_⟩
  · by_cases e : i = k
    · subst e; rw [upd_same, upd_same, upd_same]; exact ho
    · rw [upd_other _ _ e, upd_other _ _ e, upd_other _ _ e]; exact h.own i hi
  · by_cases ei : i = k
    · subst ei
      rw [upd_same] at h1
      rw [upd_other _ _ (Ne.symm hij)]
      exact hne j hj (Ne.symm hij) g h1
    · rw [upd_other _ _ ei] at h1
      by_cases ej : j = k
      · subst ej
        rw [upd_same]
        intro h3
        exact hne i hi ei g h3 h1
      · rw [upd_other _ _ ej]
        exact h.apart i j hi hj hij g h1

namespace LkM
/-- The rows of a table: 2 k is what is held of item k, 2 k + 1 its queue. -/
def row (t : List LiM) (i : Nat) : List LkM := match t[i / 2]? with | some x => if i % 2 = 0 then x.held else x.queue | none => []
theorem row_held {t : List LiM} {k : Nat} (hk : k < t.length) : row t (2 * k) = t[k].held := by
  unfold row
  rw [show 2 * k / 2 = k by omega, List.getElem?_eq_getElem hk]
  simp
theorem row_queue {t : List LiM} {k : Nat} (hk : k < t.length) : row t (2 * k + 1) = t[k].queue := by
  unfold row
  rw [show (2 * k + 1) / 2 = k by omega, List.getElem?_eq_getElem hk]
  dsimp only
  rw [if_neg (by omega)]
theorem row_off {t : List LiM} {i : Nat} (hi : 2 * t.length ≤ i) : row t i = [] := by
  unfold row
  rw [List.getElem?_eq_none (by omega)]
/-- A table's cells. -/
def liVals (t : List LiM) (v : Nat → Value) : List Value := (List.range t.length).flatMap fun k => [.int .i64 (t[k]!).item, v (2 * k), v (2 * k + 1)]
theorem flat3_len {α : Type} (f : Nat → α) (g h : Nat → α) : ∀ n, ((List.range n).flatMap fun k => [f k, g k, h k]).length = n * 3
  | 0 => rfl
  | n + 1 => by rw [List.range_succ, List.flatMap_append, List.length_append, flat3_len f g h n]; simp; omega
theorem flat3_at {α : Type} (f g h : Nat → α) : ∀ n k, k < n → ((List.range n).flatMap fun k => [f k, g k, h k])[k * 3]? = some (f k) ∧ ((List.range n).flatMap fun k => [f k, g k, h k])[k * 3 + 1]? = some (g k) ∧ ((List.range n).flatMap fun k => [f k, g k, h k])[k * 3 + 2]? = some (h k)
  | 0, k, hk => by omega
  | n + 1, k, hk => by
    rw [List.range_succ, List.flatMap_append]
    have hl := flat3_len f g h n
    by_cases e : k = n
    · subst e
      rw [List.getElem?_append_right (by omega), List.getElem?_append_right (by omega), List.getElem?_append_right (by omega), hl]
      simp [show k * 3 + 1 - k * 3 = 1 by omega, show k * 3 + 2 - k * 3 = 2 by omega]
    · rw [List.getElem?_append_left (by omega), List.getElem?_append_left (by omega), List.getElem?_append_left (by omega)]
      exact flat3_at f g h n k (by omega)
theorem liVals_len (t : List LiM) (v : Nat → Value) : (liVals t v).length = t.length * 3 := flat3_len _ _ _ _
theorem liVals_at {t : List LiM} {v : Nat → Value} {k : Nat} (hk : k < t.length) : (liVals t v)[k * 3]? = some (.int .i64 t[k].item) ∧ (liVals t v)[k * 3 + 1]? = some (v (2 * k)) ∧ (liVals t v)[k * 3 + 2]? = some (v (2 * k + 1)) := by
  have := flat3_at (fun k => Value.int .i64 (t[k]!).item) (fun k => v (2 * k)) (fun k => v (2 * k + 1)) t.length k hk
  rw [getElem!_pos t k hk] at this
  exact this
theorem liVals_snoc (t : List LiM) (x : LiM) (v v' : Nat → Value) (h : ∀ i, i < 2 * t.length → v' i = v i) : liVals (t ++ [x]) v' = liVals t v ++ [.int .i64 x.item, v' (2 * t.length), v' (2 * t.length + 1)] := by
  unfold liVals
  rw [List.length_append, List.length_singleton, List.range_succ, List.flatMap_append]
  congr 1
  · rw [List.flatMap_def, List.flatMap_def]
    congr 1
    apply List.map_congr_left
    intro k hk
    have hk := List.mem_range.1 hk
    rw [h (2 * k) (by omega), h (2 * k + 1) (by omega), getElem!_pos (t ++ [x]) k (by simp; omega), getElem!_pos t k hk, List.getElem_append_left hk]
  · simp
/-- The call owns a table. -/
structure OwnT (w : World) (base : Nat) (tv : Value) (t : List LiM) (v : Nat → Value) : Prop where
  tab : w.ownsRow base 134 3 tv t.length (liVals t v)
  fam : Fam w base 100 137 2 v (fun i => (row t i).length) (fun i => lkVals (row t i))
theorem OwnT.nil (w : World) (base : Nat) : OwnT w base (.slice none 0 0) [] (fun _ => .slice none 0 0) :=
  ⟨World.ownsRow_nil _ _ _ _, (Fam.nil w base 100 137 2).alike (fun _ _ => rfl) (fun i _ => by rw [row_off (by simp)]; rfl) (fun i _ => by rw [row_off (by simp)]; rfl)⟩
theorem row_snoc {t : List LiM} {x : LiM} {i : Nat} : row (t ++ [x]) i = if i = 2 * t.length then x.held else if i = 2 * t.length + 1 then x.queue else row t i := by
  by_cases e1 : i = 2 * t.length
  · subst e1
    rw [if_pos rfl, row_held (by simp)]
    simp
  · rw [if_neg e1]
    by_cases e2 : i = 2 * t.length + 1
    · subst e2
      rw [if_pos rfl, row_queue (by simp)]
      simp
    · rw [if_neg e2]
      by_cases e3 : i / 2 < t.length
      · unfold row
        rw [List.getElem?_append_left e3]
      · rw [row_off (by simp; omega), row_off (by omega)]
/-- A table with one item more. -/
theorem OwnT.push {w0 w w' : World} {base : Nat} {tv tv' : Value} {t : List LiM} {v : Nat → Value} {x : LiM} {v5 v8 : Value} (h : OwnT w0 base tv t v) (hb : Below w0.heap.size w0 w) (hbase : base ≤ w0.heap.size)
    (h5 : w.ownsRow w0.heap.size 137 2 v5 x.held.length (lkVals x.held)) (h8 : w.ownsRow w0.heap.size 137 2 v8 x.queue.length (lkVals x.queue)) (hap : ∀ g, v5.ownBlock = some g → v8.ownBlock ≠ some g)
    (ho : w'.ownsRow base 134 3 tv' (t.length + 1) (liVals t v ++ [.int .i64 x.item, v5, v8])) (hg : w.grownBy w' tv.ownBlock) : OwnT w' base tv' (t ++ [x]) (upd (upd v (2 * t.length) v5) (2 * t.length + 1) v8) := by
  have hold : ∀ i, i < 100 → ∀ g, (v i).ownBlock = some g → g < w0.heap.size := fun i hi g hg => ((h.fam.own i hi).lt g hg).2
  have f1 := h.fam.after hb
  have f2 := f1.addRow (k := 2 * t.length) (ownsRow_mono h5 hbase) (fun i hi _ g hg hg2 => by have := hold i hi g hg2; have := (h5.lt g hg).1; omega)
  have f3 := f2.addRow (k := 2 * t.length + 1) (ownsRow_mono h8 hbase) (fun i hi hik g hg hg2 => by
    by_cases e : i = 2 * t.length
    · subst e
      rw [upd_same] at hg2
      exact hap g hg2 hg
    · rw [upd_other _ _ e] at hg2
      have := hold i hi g hg2; have := (h8.lt g hg).1; omega)
  have ht := ownsRow_below h.tab hb
  have f4 := f3.kept hg (fun i hi => row_ne (f3.own i hi) ht (by decide))
  refine ⟨?_, f4.alike (fun _ _ => rfl) (fun i _ => ?_) (fun i _ => ?_)⟩
  · rw [liVals_snoc t x v _ (fun i hi => by rw [upd_other _ _ (by omega), upd_other _ _ (by omega)]), upd_same, upd_other _ _ (by omega), upd_same, List.length_append, List.length_singleton]
    exact ho
  · simp only [row_snoc, upd]
    by_cases e1 : i = 2 * t.length
    · subst e1; simp
    · by_cases e2 : i = 2 * t.length + 1
      · subst e2; simp
      · simp [e1, e2]
  · simp only [row_snoc, upd]
    by_cases e1 : i = 2 * t.length
    · subst e1; simp
    · by_cases e2 : i = 2 * t.length + 1
      · subst e2; simp
      · simp [e1, e2]
section
variable {w w' : World} {base : Nat} {tv : Value} {t : List LiM} {v : Nat → Value}
theorem OwnT.alloc (h : OwnT w base tv t v) (o : Obj) : OwnT (w.alloc o) base tv t v := ⟨h.tab.alloc o, h.fam.alloc o⟩
theorem OwnT.after (h : OwnT w base tv t v) (hb : Below w.heap.size w w') : OwnT w' base tv t v := ⟨ownsRow_below h.tab hb, h.fam.after hb⟩
theorem OwnT.item (h : OwnT w base tv t v) (h50 : t.length ≤ 50) {k : Nat} (hk : k < t.length) {g : Nat} (hg : tv.ownBlock = some g) : ∃ ha hc qa qc, v (2 * k) = .slice ha t[k].held.length hc ∧ v (2 * k + 1) = .slice qa t[k].queue.length qc ∧ LiIn w base g (0 + k * 3) t[k] ha hc qa qc := by
  obtain ⟨e1, e2, e3⟩ := liVals_at (v := v) hk
  have hH := h.fam.own (2 * k) (by omega)
  have hQ := h.fam.own (2 * k + 1) (by omega)
  simp only [row_held hk] at hH
  simp only [row_queue hk] at hQ
  obtain ⟨ha, hc, f1, _, f2, f3, f4⟩ := LksIn.own hH
  obtain ⟨qa, qc, g1, _, g2, g3, g4⟩ := LksIn.own hQ
  have cell : ∀ j u, (liVals t v)[j]? = some u → w.cell? ⟨g, j, none⟩ = some u := fun j u hu => by
    have htab := h.tab
    rcases htab.2 with ⟨h1, _⟩ | ⟨g', cap, cur, h1, _⟩
    · rw [h1] at hg; cases hg
    · rw [h1] at hg htab
      injection hg with hg
      subst hg
      have := (List.getElem?_eq_some_iff.1 hu).1
      rw [liVals_len] at this
      rw [htab.cellAt j this, hu]
  have c0 := cell _ _ e1
  have c1 := cell _ _ e2
  have c2 := cell _ _ e3
  rw [f1] at c1
  rw [g1] at c2
  refine ⟨ha, hc, qa, qc, f1, g1, ?_, ?_, ?_, f2, g2, f4, g4, f3, g3⟩
  · rw [Nat.zero_add]; exact c0
  · rw [Nat.zero_add]; exact c1
  · rw [Nat.zero_add]; exact c2
theorem OwnT.in_ (h : OwnT w base tv t v) (h50 : t.length ≤ 50) : ∃ ao cap, tv = .slice ao t.length cap ∧ LisIn w base ao t ∧ t.length ≤ cap ∧ (ao = none → cap = 0) := by
  rcases h.tab.2 with ⟨h1, h2⟩ | ⟨g, cap, cur, h1, h3, h4, _⟩
  · exact ⟨none, 0, by rw [h1, h2], Or.inl (List.eq_nil_of_length_eq_zero h2), by omega, fun _ => rfl⟩
  · have hg : tv.ownBlock = some g := by rw [h1]; rfl
    have hle : t.length ≤ cap := by
      obtain ⟨_, _, h5, _, _, hle⟩ := ownsRow_shape h.tab (by rw [h1]; intro h; cases h)
      rw [h1] at h5
      injection h5 with _ _ h6
      omega
    exact ⟨some ⟨g, 0, none⟩, cap, h1, Or.inr ⟨g, 0, rfl, h3, (Array.getElem?_eq_some_iff.1 h4).1, fun k hk => by
      obtain ⟨ha, hc, qa, qc, _, _, h5⟩ := h.item h50 hk hg
      exact ⟨ha, hc, qa, qc, h5⟩⟩, hle, fun h => by cases h⟩
end
end LkM
end
end Go.Proofs.YtnnkejolfhhmlaaGreat
