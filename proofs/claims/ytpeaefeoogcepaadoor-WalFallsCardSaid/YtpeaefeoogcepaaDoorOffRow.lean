/- Rows that begin anywhere in a block of the call's own. -/
import Derived.Test.YtpeaefeoogcepaaDoorHeap
import Derived.ArgAppend
import Derived.Laws.OwnMore
namespace Go.Proofs.YtpeaefeoogcepaaDoor
open Go.RowKit Go.Lib

/-- A row of cells, one an element, that begins at off in a block of the call's own. -/
structure OffRow (w : World) (base e g off n cap : Nat) (xs : List Value) : Prop where
  base : base ≤ g
  le : n ≤ cap
  mx : cap ≤ maxLen
  len : xs.length = n
  row : ∃ cur, w.heap[g]? = some (.cells cur e (0, 0)) ∧ off + cap ≤ cur.size ∧ ∀ j u, xs[j]? = some u → cur[off + j]? = some u
section
variable {w w' : World} {base e g off n cap : Nat} {xs : List Value}
theorem OffRow.lt (h : OffRow w base e g off n cap xs) : g < w.heap.size := by
  obtain ⟨cur, h1, _⟩ := h.row
  exact (Array.getElem?_eq_some_iff.1 h1).1
theorem OffRow.kept (h : OffRow w base e g off n cap xs) (hb : w'.heap[g]? = w.heap[g]?) : OffRow w' base e g off n cap xs := by
  obtain ⟨cur, h1, h2⟩ := h.row
  exact ⟨h.base, h.le, h.mx, h.len, cur, hb.trans h1, h2⟩
theorem OffRow.cell (h : OffRow w base e g off n cap xs) {j : Nat} {u : Value} (hu : xs[j]? = some u) : w.cell? ⟨g, off + j, none⟩ = some u := by
  obtain ⟨cur, h1, h2, h3⟩ := h.row
  rw [cell_of_row _ _ _ cur e (0, 0) h1]
  exact h3 j u hu
theorem OffRow.some_ (h : OffRow w base e g off n cap xs) {j : Nat} (hj : j < cap) : (w.cell? ⟨g, off + j, none⟩).isSome = true := by
  obtain ⟨cur, h1, h2, h3⟩ := h.row
  rw [cell_of_row _ _ _ cur e (0, 0) h1]
  simp; omega
theorem OffRow.frozen (h : OffRow w base e g off n cap xs) (j : Nat) : w.frozen? ⟨g, j, none⟩ = false := by
  obtain ⟨cur, h1, h2, h3⟩ := h.row
  simp [World.frozen?, h1]
/-- A store into the row. -/
theorem OffRow.set (h : OffRow w base e g off n cap xs) (j : Nat) (u : Value) : OffRow (w.setCell ⟨g, off + j, none⟩ u) base e g off n cap (xs.set j u) ∧ w.grownBy (w.setCell ⟨g, off + j, none⟩ u) (some g) := by
  obtain ⟨cur, h1, h2, h3⟩ := h.row
  refine ⟨⟨h.base, h.le, h.mx, by rw [List.length_set]; exact h.len, cur.setIfInBounds (off + j) u, heap_setCell_same w g (off + j) cur e u h1, by simpa using h2, fun i v hv => ?_⟩, ?_⟩
  · by_cases e1 : j = i
    · subst e1
      have hlt : j < xs.length := by
        have := (List.getElem?_eq_some_iff.1 hv).1
        simpa using this
      rw [List.getElem?_set_self hlt] at hv
      have := h.len; have := h.le
      rw [Array.getElem?_setIfInBounds_self_of_lt (by omega)]
      exact hv
    · rw [List.getElem?_set_ne e1] at hv
      rw [Array.getElem?_setIfInBounds_ne (by omega)]
      exact h3 i v hv
  · have e := (Below.refl 0 w).setCell (p := ⟨g, off + j, none⟩) (Nat.zero_le _) u
    exact ⟨e.os, e.tape, e.output, e.size, fun k hk hne => Below.heap_setCell _ _ _ _ (by show k ≠ g; intro e2; exact hne (by rw [e2]))⟩
/-- The row's last element alone: s[len(s)-1:]. -/
theorem OffRow.last (h : OffRow w base e g off n cap xs) {u : Value} (hu : xs.getLast? = some u) : OffRow w base e g (off + (n - 1)) 1 (cap - (n - 1)) [u] := by
  obtain ⟨cur, h1, h2, h3⟩ := h.row
  have hl := h.len; have hle := h.le
  have h0 : 0 < xs.length := by
    rcases xs with _ | ⟨x, r⟩
    · simp at hu
    · simp
  rw [List.getLast?_eq_getElem?] at hu
  refine ⟨h.base, by omega, by have := h.mx; omega, rfl, cur, h1, by omega, fun j v hv => ?_⟩
  have : j = 0 := by have := (List.getElem?_eq_some_iff.1 hv).1; simp at this; omega
  subst this
  simp at hv; subst hv
  have := h3 (xs.length - 1) _ hu
  rw [show off + (n - 1) + 0 = off + (xs.length - 1) by omega]
  exact this
/-- One more. -/
theorem OffRow.append {P : Program} (h : OffRow w base e g off n cap xs) (hbase : base ≤ w.heap.size) (t ty : TypeId) (i : TypeInfo) (z : Value) (bytes : Nat) (ht : P.underlying t = some (.slice e)) (hi : P.info? e = some i) (hz : i.zero = some z) (hsize : i.size = 1) (hby : i.bytes = bytes) (hzs : z.cells.size = 1)
    (a : Addr) (c : Nat) (u : Value) (hu : w.cell? a = some u) (h1 : u.oneCell' = true) (h63 : n + 1 ≤ maxLen) (hbytes : (n + 1) * bytes ≤ 140737488355328) (ha : a.spot = none) :
    ∃ g' off' cap' w', (Builtin.append_ #[t, t] ty #[.slice (some ⟨g, off, none⟩) n cap, .slice (some a) 1 c]).run P w = .ok (.slice (some ⟨g', off', none⟩) (n + 1) cap') w' ∧
      OffRow w' base e g' off' (n + 1) cap' (xs ++ [u]) ∧ w.grownBy w' (some g) ∧ (g' = g ∨ w.heap.size ≤ g') := by
  have hl := h.len
  have hnews : ∀ j v, [u][j]? = some v → w.cell? (a.add j) = some v := by
    intro j v hv
    have : j = 0 := by have := (List.getElem?_eq_some_iff.1 hv).1; simp at this; omega
    subst this
    simp at hv; subst hv
    obtain ⟨ab, ao, sp⟩ := a
    simp only at ha
    subst ha
    rw [Addr.add_lit]; exact hu
  by_cases hr : n + 1 ≤ cap
  · have hrun := run_append_room_cells (P := P) w t ty e i ht hi g off n cap a 1 c [u] (by rw [hsize]; rfl) hnews (by simpa using h1) hr (fun j hj => by
      have : j = 0 := by simp at hj; omega
      subst this
      rw [hsize, Nat.mul_one, Nat.add_zero]
      exact h.some_ (by omega)) (fun j _ => h.frozen _)
    rw [hsize, Nat.mul_one] at hrun
    obtain ⟨cur, c1, c2, c3⟩ := h.row
    have e : w.setCells g (off + n) [u] = w.setCell ⟨g, off + n, none⟩ u := rfl
    rw [e] at hrun
    refine ⟨g, off, cap, _, hrun, ⟨h.base, hr, h.mx, by simp [hl], cur.setIfInBounds (off + n) u, heap_setCell_same w g (off + n) cur _ u c1, by simpa using c2, fun i v hv => ?_⟩, ?_, Or.inl rfl⟩
    · by_cases e1 : i = n
      · subst e1
        rw [List.getElem?_append_right (by omega), hl, Nat.sub_self] at hv
        simp at hv; subst hv
        rw [Array.getElem?_setIfInBounds_self_of_lt (by omega)]
      · have hlt := (List.getElem?_eq_some_iff.1 hv).1
        simp at hlt
        rw [List.getElem?_append_left (by omega)] at hv
        rw [Array.getElem?_setIfInBounds_ne (by omega)]
        exact c3 i v hv
    · have e := (Below.refl 0 w).setCell (p := ⟨g, off + n, none⟩) (Nat.zero_le _) u
      exact ⟨e.os, e.tape, e.output, e.size, fun k hk hne => Below.heap_setCell _ _ _ _ (by show k ≠ g; intro e2; exact hne (by rw [e2]))⟩
  · obtain ⟨v', w', hrun, ho, hg⟩ := run_append_arg_grows (P := P) w t ty e i z 1 bytes ht hi hz hsize hby hzs (by decide) ⟨g, off, none⟩ n cap xs (by omega) (fun j v hv => by rw [Addr.add_lit]; exact h.cell hv) a 1 c [u] rfl hnews (by omega) h63 hbytes
    rcases ho.2 with ⟨_, h3⟩ | ⟨g', cap', cur, rfl, hb, hg', hnc, hm, hsz, htk⟩
    · omega
    · refine ⟨g', 0, cap', w', hrun, ⟨Nat.le_trans hbase hb, hnc, hm, by simp [hl], cur, hg', by omega, fun j v hv => ?_⟩, ⟨hg.os, hg.tape, hg.output, hg.size, fun k hk _ => hg.block k hk (by simp)⟩, Or.inr hb⟩
      rw [← htk] at hv
      rw [List.getElem?_take] at hv
      split at hv
      · rw [Nat.zero_add]; simpa using hv
      · cases hv
end
/-- Cells behind the last one are filled. -/
theorem OffRow.spare {base e g off cap : Nat} : ∀ (news : List Value) {w : World} {n : Nat} {xs : List Value}, OffRow w base e g off n cap xs → n + news.length ≤ cap →
    OffRow (w.setCells g (off + n) news) base e g off (n + news.length) cap (xs ++ news) ∧ w.grownBy (w.setCells g (off + n) news) (some g)
  | [], w, n, xs, h, _ => ⟨by rw [List.append_nil]; exact h, rfl, rfl, rfl, Nat.le_refl _, fun _ _ _ => rfl⟩
  | u :: r, w, n, xs, h, hc => by
    rw [List.length_cons] at hc
    have hl := h.len
    obtain ⟨cur, c1, c2, c3⟩ := h.row
    have h1 : OffRow (w.setCell ⟨g, off + n, none⟩ u) base e g off (n + 1) cap (xs ++ [u]) := by
      refine ⟨h.base, by omega, h.mx, by simp [hl], cur.setIfInBounds (off + n) u, heap_setCell_same w g (off + n) cur _ u c1, by simpa using c2, fun i v hv => ?_⟩
      by_cases e1 : i = n
      · subst e1
        rw [List.getElem?_append_right (by omega), hl, Nat.sub_self] at hv
        simp at hv; subst hv
        rw [Array.getElem?_setIfInBounds_self_of_lt (by omega)]
      · have hlt := (List.getElem?_eq_some_iff.1 hv).1
        simp at hlt
        rw [List.getElem?_append_left (by omega)] at hv
        rw [Array.getElem?_setIfInBounds_ne (by omega)]
        exact c3 i v hv
    have hg1 : w.grownBy (w.setCell ⟨g, off + n, none⟩ u) (some g) := by
      have e := (Below.refl 0 w).setCell (p := ⟨g, off + n, none⟩) (Nat.zero_le _) u
      exact ⟨e.os, e.tape, e.output, e.size, fun k hk hne => Below.heap_setCell _ _ _ _ (by show k ≠ g; intro e2; exact hne (by rw [e2]))⟩
    obtain ⟨h2, hg2⟩ := OffRow.spare r h1 (by omega)
    rw [List.append_assoc, Nat.add_assoc off n 1 |>.symm] at h2
    rw [Nat.add_assoc off n 1 |>.symm] at hg2
    rw [List.length_cons, show n + (r.length + 1) = n + 1 + r.length by omega]
    exact ⟨h2, hg2.os.trans hg1.os, hg2.tape.trans hg1.tape, hg2.output.trans hg1.output, Nat.le_trans hg1.size hg2.size, fun k hk hne => (hg2.block k (Nat.lt_of_lt_of_le hk hg1.size) hne).trans (hg1.block k hk hne)⟩
/-- append(a row that begins anywhere, many). -/
theorem OffRow.appendL {P : Program} {w : World} {base e g off n cap : Nat} {xs : List Value} (h : OffRow w base e g off n cap xs) (hbase : base ≤ w.heap.size) (t ty : TypeId) (i : TypeInfo) (z : Value) (bytes : Nat) (ht : P.underlying t = some (.slice e)) (hi : P.info? e = some i) (hz : i.zero = some z) (hsize : i.size = 1) (hby : i.bytes = bytes) (hzs : z.cells.size = 1)
    (a : Addr) (m c : Nat) (news : List Value) (hnl : news.length = m) (hnews : ∀ j v, news[j]? = some v → w.cell? (a.add j) = some v) (h1 : ∀ u ∈ news, u.oneCell' = true) (h63 : n + m ≤ maxLen) (hbytes : (n + m) * bytes ≤ 140737488355328) :
    ∃ g' off' cap' w', (Builtin.append_ #[t, t] ty #[.slice (some ⟨g, off, none⟩) n cap, .slice (some a) m c]).run P w = .ok (.slice (some ⟨g', off', none⟩) (n + m) cap') w' ∧
      OffRow w' base e g' off' (n + m) cap' (xs ++ news) ∧ w.grownBy w' (some g) ∧ (g' = g ∨ w.heap.size ≤ g') := by
  have hl := h.len
  by_cases hr : n + m ≤ cap
  · have hrun := run_append_room_cells (P := P) w t ty e i ht hi g off n cap a m c news (by rw [hsize]; omega) hnews h1 hr (fun j hj => by
      rw [hsize, Nat.mul_one, Nat.add_assoc]
      exact h.some_ (by omega)) (fun j _ => h.frozen _)
    rw [hsize, Nat.mul_one] at hrun
    obtain ⟨h2, hg2⟩ := OffRow.spare news h (by omega)
    rw [hnl] at h2
    exact ⟨g, off, cap, _, hrun, h2, hg2, Or.inl rfl⟩
  · obtain ⟨v', w', hrun, ho, hg⟩ := run_append_arg_grows (P := P) w t ty e i z 1 bytes ht hi hz hsize hby hzs (by decide) ⟨g, off, none⟩ n cap xs (by omega) (fun j v hv => by rw [Addr.add_lit]; exact h.cell hv) a m c news (by omega) hnews (by omega) h63 hbytes
    rcases ho.2 with ⟨_, h3⟩ | ⟨g', cap', cur, rfl, hb, hg', hnc, hm, hsz, htk⟩
    · have hle := h.le
      omega
    · refine ⟨g', 0, cap', w', hrun, ⟨Nat.le_trans hbase hb, hnc, hm, by simp [hl, hnl], cur, hg', by omega, fun j v hv => ?_⟩, ⟨hg.os, hg.tape, hg.output, hg.size, fun k hk _ => hg.block k hk (by simp)⟩, Or.inr hb⟩
      rw [← htk] at hv
      rw [List.getElem?_take] at hv
      split at hv
      · rw [Nat.zero_add]; simpa using hv
      · cases hv
/-- A whole row of the call's own is one. -/
theorem OffRow.of_own {w : World} {base e g n cap : Nat} {xs : List Value} (h : w.ownsRow base e 1 (.slice (some ⟨g, 0, none⟩) n cap) n xs) : OffRow w base e g 0 n cap xs := by
  rcases h.2 with ⟨h1, _⟩ | ⟨g', cap', cur, h1, hb, hg, hnc, hm, hsz, htk⟩
  · cases h1
  · simp only [Value.slice.injEq, Option.some.injEq, Addr.mk.injEq, and_true, true_and] at h1
    obtain ⟨rfl, rfl⟩ := h1
    refine ⟨hb, hnc, hm, by have := h.1; omega, cur, hg, by omega, fun j u hu => ?_⟩
    rw [← htk] at hu
    rw [List.getElem?_take] at hu
    split at hu
    · rw [Nat.zero_add]; simpa using hu
    · cases hu
/-- The row without its first element: s[1:]. -/
theorem OffRow.tail {w : World} {base e g off n cap : Nat} {x : Value} {xs : List Value} (h : OffRow w base e g off n cap (x :: xs)) : OffRow w base e g (off + 1) (n - 1) (cap - 1) xs := by
  obtain ⟨cur, h1, h2, h3⟩ := h.row
  have hl := h.len; have hle := h.le
  rw [List.length_cons] at hl
  refine ⟨h.base, by omega, by have := h.mx; omega, by omega, cur, h1, by omega, fun j u hu => ?_⟩
  have := h3 (j + 1) u (by rw [List.getElem?_cons_succ]; exact hu)
  rw [show off + 1 + j = off + (j + 1) by omega]
  exact this
/-- A queue: nil, or such a row. -/
def QRow (w : World) (base e : Nat) (v : Value) (xs : List Value) : Prop := (v = .slice none 0 0 ∧ xs = []) ∨ ∃ g off cap, v = .slice (some ⟨g, off, none⟩) xs.length cap ∧ OffRow w base e g off xs.length cap xs
theorem QRow.of_own {w : World} {base e n : Nat} {v : Value} {xs : List Value} (h : w.ownsRow base e 1 v n xs) : QRow w base e v xs := by
  have hn := h.1
  rcases h.2 with ⟨h1, h2⟩ | ⟨g, cap, cur, h1, _⟩
  · exact Or.inl ⟨h1, List.eq_nil_of_length_eq_zero (by omega)⟩
  · have e1 : xs.length = n := by omega
    subst e1
    rw [h1] at h
    exact Or.inr ⟨g, 0, cap, h1, OffRow.of_own h⟩
theorem QRow.slice {w : World} {base e : Nat} {v : Value} {xs : List Value} (h : QRow w base e v xs) : ∃ a c, v = .slice a xs.length c := by
  rcases h with ⟨h1, h2⟩ | ⟨g, off, cap, h1, _⟩
  · exact ⟨none, 0, by rw [h1, h2]; rfl⟩
  · exact ⟨_, _, h1⟩
theorem QRow.kept {w w' : World} {base e : Nat} {v : Value} {xs : List Value} (h : QRow w base e v xs) (hb : ∀ g, base ≤ g → g < w.heap.size → w'.heap[g]? = w.heap[g]?) : QRow w' base e v xs := by
  rcases h with h | ⟨g, off, cap, h1, h2⟩
  · exact Or.inl h
  · exact Or.inr ⟨g, off, cap, h1, h2.kept (hb g h2.base h2.lt)⟩
theorem run_append_none {P : Program} (w : World) (t ty e : TypeId) (i : TypeInfo) (ht : P.underlying t = some (.slice e)) (hi : P.info? e = some i) (a : Addr) (n cap : Nat) (hle : n ≤ cap) :
    (Builtin.append_ #[t, t] ty #[.slice (some a) n cap, .slice none 0 0]).run P w = .ok (.slice (some a) n cap) w := by
  simp [Builtin.append_, run_underlying ht, sizeOf, typeInfo, hi, Builtin.lenOf, hle, Builtin.firstCells, storeCells]
/-- append(a queue, numbers of a row that stands ..). -/
theorem wpList_append_queue {P : Program} {w : World} {ops : Array Oper} {rest : List Oper} {o : Oper} {a : Act} {Q : Exit → Act → World → Prop} (hgd : o.guard = none) (s x : Operand) (t : TypeId)
    (ho : o.op = .call { callee := .builtin .append, args := #[s, x], argTypes := #[t, t] })
    (base e : Nat) (i : TypeInfo) (z : Value) (bytes : Nat) (ht : P.underlying t = some (.slice e)) (hi : P.info? e = some i) (hz : i.zero = some z) (hsize : i.size = 1) (hby : i.bytes = bytes) (hzs : z.cells.size = 1)
    (v : Value) (xs : List Value) (hs : a.eval s = v) (hq : QRow w base e v xs) (hbase : base ≤ w.heap.size)
    (ao : Option Addr) (m c : Nat) (news : List Value) (hx : a.eval x = .slice ao m c) (hnl : news.length = m) (hao : ao = none → m = 0 ∧ c = 0) (hnews : ∀ ad, ao = some ad → ∀ j v, news[j]? = some v → w.cell? (ad.add j) = some v) (h1 : ∀ u ∈ news, u.oneCell' = true)
    (h63 : xs.length + m ≤ maxLen) (hbytes : (xs.length + m) * bytes ≤ 140737488355328)
    (h : ∀ a' c' w', QRow w' base e (.slice a' (xs ++ news).length c') (xs ++ news) → (∀ k, k < base → w'.heap[k]? = w.heap[k]?) → w'.os = w.os → w'.tape = w.tape → w'.output = w.output → w.heap.size ≤ w'.heap.size → wpList P ops Q rest (a.put o.dst (.slice a' (xs ++ news).length c')) w') :
    wpList P ops Q (o :: rest) a w := by
  refine wpList_plain hgd fun K hK => ?_
  have key : ∀ a' c' w', (Builtin.append_ #[t, t] o.type #[v, .slice ao m c]).run P w = .ok (.slice a' (xs ++ news).length c') w' → QRow w' base e (.slice a' (xs ++ news).length c') (xs ++ news) → (∀ k, k < base → w'.heap[k]? = w.heap[k]?) → w'.os = w.os → w'.tape = w.tape → w'.output = w.output → w.heap.size ≤ w'.heap.size → Oper.wp P o a w K Q := by
    intro a' c' w' hr h2 h3 h4 h5 h6 h7
    unfold Oper.wp execOp
    simp only [ho, resolve, invoke, builtin, Sem.run_bind, Sem.run_pure, Result.andThen_ok, List.map_toArray, List.map_cons, List.map_nil, hs, hx, hr]
    exact hK _ _ (h a' c' w' h2 h3 h4 h5 h6 h7)
  have hlen : (xs ++ news).length = xs.length + m := by rw [List.length_append, hnl]
  rcases hq with ⟨rfl, rfl⟩ | ⟨g, off, cap, rfl, hrow⟩
  · cases ao with
    | none =>
      obtain ⟨rfl, rfl⟩ := hao rfl
      have hn0 : news = [] := List.eq_nil_of_length_eq_zero hnl
      subst hn0
      have hrun := run_append_owned_none (P := P) (w := w) base t o.type e i 1 ht hi (.slice none 0 0) 0 [] (World.ownsRow_nil _ _ _ _)
      exact key none 0 w hrun (Or.inl ⟨rfl, rfl⟩) (fun _ _ => rfl) rfl rfl rfl (Nat.le_refl _)
    | some ad =>
      obtain ⟨v', w', hrun, h2, h3, _⟩ := run_append_own (P := P) w base t o.type e i z 1 bytes ht hi hz hsize hby hzs (by decide) (.slice none 0 0) 0 [] (World.ownsRow_nil _ _ _ _) ad m c news (by omega) (hnews ad rfl) h1 (by simpa using h63) (by simpa using hbytes) hbase
      have hq2 := QRow.of_own h2
      obtain ⟨a', c', e'⟩ : ∃ a' c', v' = .slice a' ([] ++ news).length c' := by
        rcases hq2 with ⟨e1, e2⟩ | ⟨g, off, cap, e1, _⟩
        · exact ⟨none, 0, by rw [e1, e2]; rfl⟩
        · exact ⟨_, _, e1⟩
      subst e'
      exact key a' c' w' hrun hq2 (fun k hk => h3.block k (by omega) (by simp [Value.ownBlock])) h3.os h3.tape h3.output h3.size
  · cases ao with
    | none =>
      obtain ⟨rfl, rfl⟩ := hao rfl
      have hn0 : news = [] := List.eq_nil_of_length_eq_zero hnl
      subst hn0
      have hrun := run_append_none (P := P) w t o.type e i ht hi ⟨g, off, none⟩ xs.length cap hrow.le
      refine key (some ⟨g, off, none⟩) cap w (by rw [hrun, List.append_nil]) ?_ (fun _ _ => rfl) rfl rfl rfl (Nat.le_refl _)
      rw [List.append_nil]
      exact Or.inr ⟨g, off, cap, rfl, hrow⟩
    | some ad =>
      obtain ⟨g', off', cap', w', hrun, h2, h3, h4⟩ := hrow.appendL (P := P) hbase t o.type i z bytes ht hi hz hsize hby hzs ad m c news hnl (hnews ad rfl) h1 h63 hbytes
      rw [← hlen] at hrun h2
      have hgb := hrow.base
      exact key (some ⟨g', off', none⟩) cap' w' hrun (Or.inr ⟨g', off', cap', rfl, h2⟩) (fun k hk => h3.block k (by omega) (by intro e1; injection e1 with e1; omega)) h3.os h3.tape h3.output h3.size
end Go.Proofs.YtpeaefeoogcepaaDoor
