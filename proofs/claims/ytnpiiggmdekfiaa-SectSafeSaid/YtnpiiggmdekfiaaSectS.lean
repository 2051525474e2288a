/- Rows of texts that begin anywhere in a block of the call's own; slices.Contains over texts. -/
import Derived.Test.YtnpiiggmdekfiaaSectC
import Derived.Test.YtnpiiggmdekfiaaSectN
namespace Go.Proofs.Ytnpiiggmdekfiaa
open Go.RowKit Go.Lib

def StrsAt (w : World) (ao : Option Addr) (l : List ByteArray) : Prop :=
  l = [] ∨ ∃ b off, ao = some ⟨b, off, none⟩ ∧ b < w.heap.size ∧ ∀ k (h : k < l.length), w.cell? ⟨b, off + k, none⟩ = some (.string l[k])
/-- The text is somewhere in the list: slices.Index finds a place. -/
def FoundAt (w : World) (e : Ending) (w' : World) : Prop := ∃ k : Nat, e = .returned (.int .i64 (k : Int)) ∧ w = w'
set_option maxRecDepth 20000 in
set_option maxHeartbeats 1000000 in
theorem index_strs_in (l : List ByteArray) (x : ByteArray) (hx : x ∈ l) (ao : Option Addr) (cap : Nat) (w : World) (h : StrsAt w ao l) (hn : l.length ≤ 9000000000000000000) :
    Calls Try.prog 47 #[.slice ao l.length cap, .string x] w (FoundAt w) := by
  obtain ⟨i, hi, hix⟩ := List.mem_iff_getElem.1 hx
  obtain ⟨b, off, rfl, hb, hrow⟩ := h.resolve_left (by intro h; rw [h] at hi; simp at hi)
  have HRow := box hrow
  have HI := box hix
  obtain ⟨N, HN⟩ : ∃ N, Box (l.length = N) := ⟨_, ⟨rfl⟩⟩
  rw [HN.out] at hn ⊢
  have hiN : i < N := by have := HN.out; omega
  clear hrow hix hx h
  go_enter Try.func47, Try.ntmps47
  go_wp2_with fail
  go_loop [8] (fun t8 => ∃ k : Nat, k ≤ i ∧ t8 = .int .i64 (k : Int)) (fun t8 => N - (RowKit.intOf t8).toNat)
  case atStart => exact ⟨0, Nat.zero_le _, rfl⟩
  case round =>
    obtain ⟨k, hk, rfl⟩ := hrel
    have hkN : k < N := by omega
    have hc := HRow.out k (by rw [HN.out]; exact hkN)
    have HE : Box (k = i → (x.toList == (l[k]'(by rw [HN.out]; exact hkN)).toList) = true) := ⟨fun h => by subst h; rw [HI.out]; simp⟩
    generalize l[k]'(by rw [HN.out]; exact hkN) = y at *
    cases hxy : (x.toList == y.toList) with
    | true =>
      go_wp2_with fail
      go_ret
      exact ⟨k, rfl, rfl⟩
    | false =>
      have hne : k < i := by
        rcases Nat.lt_or_ge k i with h | h
        · exact h
        · have := HE.out (by omega); rw [this] at hxy; cases hxy
      go_wp2_with fail
      go_round
      case rel => exact ⟨k + 1, hne, by go_num⟩
      case measure => simp [RowKit.intOf]; omega
theorem contains_strs_in (l : List ByteArray) (x : ByteArray) (hx : x ∈ l) (ao : Option Addr) (cap : Nat) (w : World) (h : StrsAt w ao l) (hn : l.length ≤ 9000000000000000000) :
    Calls Try.prog 18 #[.slice ao l.length cap, .string x] w fun e w' => e = .returned (.bool true) ∧ w = w' := by
  have HC := box (index_strs_in l x hx ao cap w h hn)
  clear h
  go_enter Try.func18, Try.ntmps18
  go_wp2_with fail
  refine HC.out.mono ?_
  rintro e w' ⟨k, rfl, rfl⟩
  have hk : decide ((0 : Int) ≤ (k : Int)) = true := by simp
  go_wp2_with fail
  go_ret
  exact ⟨rfl, rfl⟩

/-- A row of cells, one an element, that begins at off in a block of the call's own. -/
structure OffRow (w : World) (base e g off n cap : Nat) (xs : List Value) : Prop where
  base : base ≤ g
  le : n ≤ cap
  mx : cap ≤ maxLen
  len : xs.length = n
  row : ∃ cur, w.heap[g]? = some (.cells cur e (0, 0)) ∧ off + cap ≤ cur.size ∧ ∀ j u, xs[j]? = some u → cur[off + j]? = some u
section
variable {w w' : World} {base e g off n cap : Nat} {xs : List Value}
theorem OffRow.lt (h : OffRow w base e g off n cap xs) : g < w.heap.size := by
  obtain ⟨cur, h1, _⟩ := h.row
  exact (Array.getElem?_eq_some_iff.1 h1).1
theorem OffRow.kept (h : OffRow w base e g off n cap xs) (hb : w'.heap[g]? = w.heap[g]?) : OffRow w' base e g off n cap xs := by
  obtain ⟨cur, h1, h2⟩ := h.row
  exact ⟨h.base, h.le, h.mx, h.len, cur, hb.trans h1, h2⟩
theorem OffRow.cell (h : OffRow w base e g off n cap xs) {j : Nat} {u : Value} (hu : xs[j]? = some u) : w.cell? ⟨g, off + j, none⟩ = some u := by
  obtain ⟨cur, h1, h2, h3⟩ := h.row
  rw [cell_of_row _ _ _ cur e (0, 0) h1]
  exact h3 j u hu
theorem OffRow.some_ (h : OffRow w base e g off n cap xs) {j : Nat} (hj : j < cap) : (w.cell? ⟨g, off + j, none⟩).isSome = true := by
  obtain ⟨cur, h1, h2, h3⟩ := h.row
  rw [cell_of_row _ _ _ cur e (0, 0) h1]
  simp; omega
theorem OffRow.frozen (h : OffRow w base e g off n cap xs) (j : Nat) : w.frozen? ⟨g, j, none⟩ = false := by
  obtain ⟨cur, h1, h2, h3⟩ := h.row
  simp [World.frozen?, h1]
/-- A store into the row. -/
theorem OffRow.set (h : OffRow w base e g off n cap xs) (j : Nat) (u : Value) : OffRow (w.setCell ⟨g, off + j, none⟩ u) base e g off n cap (xs.set j u) ∧ w.grownBy (w.setCell ⟨g, off + j, none⟩ u) (some g) := by
  obtain ⟨cur, h1, h2, h3⟩ := h.row
  refine ⟨⟨h.base, h.le, h.mx, by rw [List.length_set]; exact h.len, cur.setIfInBounds (off + j) u, heap_setCell_same w g (off + j) cur e u h1, by simpa using h2, fun i v hv => ?_⟩, ?_⟩
  · by_cases e1 : j = i
    · subst e1
      have hlt : j < xs.length := by
        have := (List.getElem?_eq_some_iff.1 hv).1
        simpa using this
      rw [List.getElem?_set_self hlt] at hv
      have := h.len; have := h.le
      rw [Array.getElem?_setIfInBounds_self_of_lt (by omega)]
      exact hv
    · rw [List.getElem?_set_ne e1] at hv
      rw [Array.getElem?_setIfInBounds_ne (by omega)]
      exact h3 i v hv
  · have e := (Below.refl 0 w).setCell (p := ⟨g, off + j, none⟩) (Nat.zero_le _) u
    exact ⟨e.os, e.tape, e.output, e.size, fun k hk hne => Below.heap_setCell _ _ _ _ (by show k ≠ g; intro e2; exact hne (by rw [e2]))⟩
/-- The row's last element alone: s[len(s)-1:]. -/
theorem OffRow.last (h : OffRow w base e g off n cap xs) {u : Value} (hu : xs.getLast? = some u) : OffRow w base e g (off + (n - 1)) 1 (cap - (n - 1)) [u] := by
  obtain ⟨cur, h1, h2, h3⟩ := h.row
  have hl := h.len; have hle := h.le
  have h0 : 0 < xs.length := by
    rcases xs with _ | ⟨x, r⟩
    · simp at hu
    · simp
  rw [List.getLast?_eq_getElem?] at hu
  refine ⟨h.base, by omega, by have := h.mx; omega, rfl, cur, h1, by omega, fun j v hv => ?_⟩
  have : j = 0 := by have := (List.getElem?_eq_some_iff.1 hv).1; simp at this; omega
  subst this
  simp at hv; subst hv
  have := h3 (xs.length - 1) _ hu
  rw [show off + (n - 1) + 0 = off + (xs.length - 1) by omega]
  exact this
/-- One more. -/
theorem OffRow.append {P : Program} (h : OffRow w base e g off n cap xs) (hbase : base ≤ w.heap.size) (t ty : TypeId) (i : TypeInfo) (z : Value) (bytes : Nat) (ht : P.underlying t = some (.slice e)) (hi : P.info? e = some i) (hz : i.zero = some z) (hsize : i.size = 1) (hby : i.bytes = bytes) (hzs : z.cells.size = 1)
    (a : Addr) (c : Nat) (u : Value) (hu : w.cell? a = some u) (h1 : u.oneCell' = true) (h63 : n + 1 ≤ maxLen) (hbytes : (n + 1) * bytes ≤ 140737488355328) (ha : a.spot = none) :
    ∃ g' off' cap' w', (Builtin.append_ #[t, t] ty #[.slice (some ⟨g, off, none⟩) n cap, .slice (some a) 1 c]).run P w = .ok (.slice (some ⟨g', off', none⟩) (n + 1) cap') w' ∧
      OffRow w' base e g' off' (n + 1) cap' (xs ++ [u]) ∧ w.grownBy w' (some g) ∧ (g' = g ∨ w.heap.size ≤ g') := by
  have hl := h.len
  have hnews : ∀ j v, [u][j]? = some v → w.cell? (a.add j) = some v := by
    intro j v hv
    have : j = 0 := by have := (List.getElem?_eq_some_iff.1 hv).1; simp at this; omega
    subst this
    simp at hv; subst hv
    obtain ⟨ab, ao, sp⟩ := a
    simp only at ha
    subst ha
    rw [Addr.add_lit]; exact hu
  by_cases hr : n + 1 ≤ cap
  · have hrun := run_append_room_cells (P := P) w t ty e i ht hi g off n cap a 1 c [u] (by rw [hsize]; rfl) hnews (by simpa using h1) hr (fun j hj => by
      have : j = 0 := by simp at hj; omega
      subst this
      rw [hsize, Nat.mul_one, Nat.add_zero]
      exact h.some_ (by omega)) (fun j _ => h.frozen _)
    rw [hsize, Nat.mul_one] at hrun
    obtain ⟨cur, c1, c2, c3⟩ := h.row
    have e : w.setCells g (off + n) [u] = w.setCell ⟨g, off + n, none⟩ u := rfl
    rw [e] at hrun
    refine ⟨g, off, cap, _, hrun, ⟨h.base, hr, h.mx, by simp [hl], cur.setIfInBounds (off + n) u, heap_setCell_same w g (off + n) cur _ u c1, by simpa using c2, fun i v hv => ?_⟩, ?_, Or.inl rfl⟩
    · by_cases e1 : i = n
      · subst e1
        rw [List.getElem?_append_right (by omega), hl, Nat.sub_self] at hv
        simp at hv; subst hv
        rw [Array.getElem?_setIfInBounds_self_of_lt (by omega)]
      · have hlt := (List.getElem?_eq_some_iff.1 hv).1
        simp at hlt
        rw [List.getElem?_append_left (by omega)] at hv
        rw [Array.getElem?_setIfInBounds_ne (by omega)]
        exact c3 i v hv
    · have e := (Below.refl 0 w).setCell (p := ⟨g, off + n, none⟩) (Nat.zero_le _) u
      exact ⟨e.os, e.tape, e.output, e.size, fun k hk hne => Below.heap_setCell _ _ _ _ (by show k ≠ g; intro e2; exact hne (by rw [e2]))⟩
  · obtain ⟨v', w', hrun, ho, hg⟩ := run_append_arg_grows (P := P) w t ty e i z 1 bytes ht hi hz hsize hby hzs (by decide) ⟨g, off, none⟩ n cap xs (by omega) (fun j v hv => by rw [Addr.add_lit]; exact h.cell hv) a 1 c [u] rfl hnews (by omega) h63 hbytes
    rcases ho.2 with ⟨_, h3⟩ | ⟨g', cap', cur, rfl, hb, hg', hnc, hm, hsz, htk⟩
    · omega
    · refine ⟨g', 0, cap', w', hrun, ⟨Nat.le_trans hbase hb, hnc, hm, by simp [hl], cur, hg', by omega, fun j v hv => ?_⟩, ⟨hg.os, hg.tape, hg.output, hg.size, fun k hk _ => hg.block k hk (by simp)⟩, Or.inr hb⟩
      rw [← htk] at hv
      rw [List.getElem?_take] at hv
      split at hv
      · rw [Nat.zero_add]; simpa using hv
      · cases hv
end
end Go.Proofs.Ytnpiiggmdekfiaa
