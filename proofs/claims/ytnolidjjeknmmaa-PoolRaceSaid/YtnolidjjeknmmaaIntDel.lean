/- slices.Delete over numbers. -/
import Derived.Test.YtnolidjjeknmmaaIntClone
import Derived.Test.YtnolidjjeknmmaaHeap
import Derived.Deep.RegionLaw
import Derived.Lib.SliceRun
import Derived.BigQuiet
namespace Go.Proofs.Ytnolidjjeknmmaa
open Go.RowKit Go.Lib

/-- A list of which some places in a row are overwritten. -/
def setL (xs : List Value) : Nat → List Value → List Value
  | _, [] => xs
  | o, v :: vs => setL (xs.set o v) (o + 1) vs
theorem setL_len : ∀ (vs : List Value) (xs : List Value) (o : Nat), (setL xs o vs).length = xs.length
  | [], xs, o => rfl
  | v :: vs, xs, o => by rw [setL, setL_len vs]; simp
theorem setL_get : ∀ (vs : List Value) (xs : List Value) (o k : Nat), k < xs.length → (setL xs o vs)[k]? = if o ≤ k ∧ k < o + vs.length then vs[k - o]? else xs[k]?
  | [], xs, o, k, h => by
    rw [setL, if_neg (by simp only [List.length_nil]; omega)]
  | v :: vs, xs, o, k, h => by
    rw [setL, setL_get vs _ _ k (by simpa using h)]
    by_cases e : k = o
    · subst e
      rw [if_neg (by omega), if_pos (by simp)]
      simp [h]
    · by_cases h2 : o + 1 ≤ k ∧ k < o + 1 + vs.length
      · rw [if_pos h2, if_pos (by simp only [List.length_cons]; omega)]
        rw [show k - o = (k - (o + 1)) + 1 by omega, List.getElem?_cons_succ]
      · rw [if_neg h2, if_neg (by simp only [List.length_cons]; omega), List.getElem?_set_ne (by omega)]
theorem setL_own {base e size cap g n : Nat} : ∀ (vs : List Value) (o : Nat) (w : World) (xs : List Value), w.ownsRow base e size (.slice (some ⟨g, 0, none⟩) n cap) n xs →
    (w.setCells g o vs).ownsRow base e size (.slice (some ⟨g, 0, none⟩) n cap) n (setL xs o vs) ∧ w.grownBy (w.setCells g o vs) (some g)
  | [], o, w, xs, h => ⟨h, rfl, rfl, rfl, Nat.le_refl _, fun _ _ _ => rfl⟩
  | v :: vs, o, w, xs, h => by
    obtain ⟨h1, h2⟩ := h.stored o v
    obtain ⟨k1, k2⟩ := setL_own vs (o + 1) _ _ h1
    exact ⟨k1, k2.os.trans h2.os, k2.tape.trans h2.tape, k2.output.trans h2.output, Nat.le_trans h2.size k2.size, fun k hk hne => (k2.block k (Nat.lt_of_lt_of_le hk h2.size) hne).trans (h2.block k hk hne)⟩
/-- 'clear' of a slice of one element. -/
theorem run_clear_one {P : Program} (w : World) (t e ty : TypeId) (z : Value) (ht : P.underlying t = some (.slice e)) (hv : ∀ w, (zeroValue e).run P w = .ok z w) (h1 : ∀ v ∈ z.cells.toList, v.oneCell' = true) (b o c : Nat)
    (hc : ∀ j, j < z.cells.size → (w.cell? ⟨b, o + j, none⟩).isSome = true) (hf : ∀ j, j < z.cells.size → w.frozen? ⟨b, o + j, none⟩ = false) :
    (Builtin.clear_ #[t] ty #[.slice (some ⟨b, o, none⟩) 1 c]).run P w = .ok (.tuple #[]) (w.setCells b o z.cells.toList) := by
  have hzc : (Builtin.zeroCells z.cells 1).toList = z.cells.toList := by
    apply List.ext_getElem
    · simp [Builtin.zeroCells]
    · intro i h1 h2
      have h2' : i < z.cells.size := by simpa using h2
      simp [Builtin.zeroCells, Nat.mod_eq_of_lt h2', getElem!_pos z.cells i h2']
  have hst := run_storeCells_cells (P := P) b o z.cells.toList 0 w (by simpa using hc) (by simpa using hf) h1
  simp only [Nat.add_zero] at hst
  simp [Builtin.clear_, run_underlying ht, hv, hzc, hst]

theorem Try.zeroInt (w : World) : (zeroValue 3).run Try.prog w = .ok (.int .i64 0) w := by kernel_rfl
theorem intVals_drop (l : List Int) (i : Nat) : intVals (l.drop i) = (intVals l).drop i := by simp [intVals, List.map_drop]
theorem intVals_one (l : List Int) : ∀ u ∈ intVals l, u.oneCell' = true := by
  intro u hu
  obtain ⟨_, _, rfl⟩ := List.mem_map.1 hu
  rfl

/-- The row behind a deletion. -/
theorem intVals_erased (l : List Int) (i m : Nat) (hl : l.length = m + 1) (hi : i ≤ m) (zs : List Value) :
    (setL (setL (intVals l) i (intVals (l.drop (i + 1)))) m zs).take m = intVals (l.eraseIdx i) := by
  have hv := intVals_len l
  have hd : (intVals (l.drop (i + 1))).length = (m - i) := by rw [intVals_len, List.length_drop, hl]; omega
  have he : (l.eraseIdx i).length = m := by rw [List.length_eraseIdx, if_pos (by omega)]; omega
  apply List.ext_getElem?
  intro j
  by_cases hj : j < m
  · rw [List.getElem?_take, if_pos hj, setL_get _ _ _ _ (by rw [setL_len]; omega), if_neg (by omega), setL_get _ _ _ _ (by omega), hd]
    unfold intVals
    rw [List.getElem?_map (l := l.eraseIdx i), List.getElem?_eraseIdx]
    by_cases e : j < i
    · rw [if_neg (by omega), if_pos e, List.getElem?_map]
    · rw [if_pos (by omega), if_neg e, List.getElem?_map, List.getElem?_drop]
      congr 2; omega
  · rw [List.getElem?_eq_none (by rw [List.length_take]; omega), List.getElem?_eq_none (by rw [intVals_len]; omega)]
theorem own_cut1 {w : World} {base e g cap n i : Nat} {xs : List Value} (h : w.ownsRow base e 1 (.slice (some ⟨g, 0, none⟩) n cap) n xs) (hi : i ≤ n) : w.ownsRow base e 1 (.slice (some ⟨g, 0, none⟩) i cap) i (xs.take i) := by
  have hl := h.1
  refine ⟨by simp; omega, ?_⟩
  rcases h.2 with ⟨h1, _⟩ | ⟨g', cap', cur, h1, h2, h3, h4, h5, h6, h7⟩
  · cases h1
  · simp only [Value.slice.injEq, Option.some.injEq, Addr.mk.injEq, and_true, true_and] at h1
    obtain ⟨rfl, rfl⟩ := h1
    refine Or.inr ⟨g, cap, cur, rfl, h2, h3, by omega, h5, h6, ?_⟩
    rw [← h7, List.take_take, Nat.mul_one, Nat.mul_one, Nat.min_eq_left hi]

set_option maxRecDepth 20000 in
set_option maxHeartbeats 2000000 in
theorem deleteInts_any (l : List Int) (i cap g base : Nat) (w : World) (h : w.ownsRow base 3 1 (.slice (some ⟨g, 0, none⟩) l.length cap) l.length (intVals l)) (hi : i < l.length) (hcap : l.length ≤ cap) (hn : cap ≤ 9223372036854775807) :
    Calls Try.prog 72 #[.slice (some ⟨g, 0, none⟩) l.length cap, .int .i64 (i : Int), .int .i64 ((i : Int) + 1)] w fun e w' => e = .returned (.slice (some ⟨g, 0, none⟩) (l.eraseIdx i).length cap) ∧ w'.ownsRow base 3 1 (.slice (some ⟨g, 0, none⟩) (l.eraseIdx i).length cap) (l.eraseIdx i).length (intVals (l.eraseIdx i)) ∧ w.grownBy w' (some g) := by
  have H := box h
  obtain ⟨m, hL⟩ : ∃ m, l.length = m + 1 := ⟨l.length - 1, by omega⟩
  have HEl : Box ((l.eraseIdx i).length = m) := ⟨by rw [List.length_eraseIdx, if_pos hi]; omega⟩
  rw [hL] at hi hcap
  have HEr := box (intVals_erased l i m hL (by omega) [.int .i64 0])
  have Hcl := box (fun (W : World) ty hc hf => run_clear_one (P := Try.prog) W 25 3 ty (.int .i64 0) Try.underlying25 Try.zeroInt (by intro v hv; simp [Value.cells] at hv; subst hv; rfl) g m (cap - m) hc hf)
  rw [hL]
  have HL := box hL
  clear h hL
  obtain ⟨i0, hi0, hz0, hz1, hz2⟩ := info_parts IntsM.infoI
  have hic : (i : Int) ≤ (cap : Int) := by omega
  have hi2 : (i : Int) ≤ (m : Int) := by omega
  have hi5 : (0 : Int) ≤ (i : Int) + 1 := by omega
  have q0 : ((i : Int) == (i : Int) + 1) = false := by simp; omega
  have s0 : (intVals (l.drop (i + 1))).length = (m - i) := by rw [intVals_len, List.length_drop, HL.out]; omega
  have s1 := intVals_one (l.drop (i + 1))
  obtain ⟨news, HN⟩ : ∃ news, Box (intVals (l.drop (i + 1)) = news) := ⟨_, ⟨rfl⟩⟩
  rw [HN.out] at s0 s1
  have Hws : Box (∀ j, j < news.length → (w.drew.cell? ⟨g, 0 + i * 1 + j, none⟩).isSome = true ∧ w.drew.frozen? ⟨g, 0 + i * 1 + j, none⟩ = false) := ⟨fun j hj => by
    have hj2 : 0 + i * 1 + j < (m + 1) := by rw [s0] at hj; omega
    refine ⟨?_, H.out.frozenAt _⟩
    show (w.cell? _).isSome = true
    rw [H.out.cellAt _ (by rw [HL.out]; omega), List.getElem?_eq_getElem (by rw [intVals_len, HL.out]; exact hj2)]
    rfl⟩
  have Hsrc : Box (∀ j u, news[j]? = some u → w.drew.cell? ((⟨g, (i + 1), none⟩ : Addr).add j) = some u) := ⟨fun j u hu => by
    have hj : j < (m - i) := by rw [← s0]; exact (List.getElem?_eq_some_iff.1 hu).1
    show w.cell? _ = _
    rw [Addr.add_lit, H.out.cellAt _ (by rw [HL.out]; omega)]
    rw [← HN.out, intVals_drop, List.getElem?_drop] at hu
    exact hu⟩
  have S0 := box s0; have S1 := box s1
  clear s0 s1
  have hmi : i + (m - i) = m := by omega
  have hm1 : m + 1 - m = 1 := by omega
  have hmc : (m : Int) ≤ (cap : Int) := by omega
  have hm0 : (m : Int) ≤ (m : Int) + 1 := by omega
  have hend : ∀ W1, W1 = w.drew.setCells g (0 + i * 1) news → Box (W1.ownsRow base 3 1 (.slice (some ⟨g, 0, none⟩) l.length cap) l.length (setL (intVals l) i (intVals (l.drop (i + 1)))) ∧ w.drew.grownBy W1 (some g)) := fun W1 e => ⟨by
    rw [e, Nat.zero_add, Nat.mul_one, ← HN.out]
    exact setL_own _ _ _ _ H.out.drew⟩
  by_cases hcc : cap = i + 1
  case neg =>
    go_enter Try.func72, Try.ntmps72
    go_wp2_with fail
    go_region_law (refine step_append_room rfl (.tmp 22) (.tmp 25) 25 rfl 3 i0 1 Try.underlying25 hi0 hz1 g 0 i cap (by simp [Act.eval, Act.put]) ⟨g, (i + 1), none⟩ (m - i) (cap - (i + 1)) news (by simp [Act.eval, Act.put]) (by rw [Nat.mul_one]; exact S0.out) Hsrc.out S1.out (by omega) Hws.out ?_; generalize hW1 : w.drew.setCells g (0 + i * 1) news = W1)
    obtain ⟨hO1, hG1⟩ := (hend W1 hW1.symm).out
    have HO1 := box hO1; have HG1 := box hG1
    have hsz : (setL (intVals l) i (intVals (l.drop (i + 1)))).length = (m + 1) := by rw [setL_len, intVals_len, HL.out]
    have hcl : ∀ ty, (Builtin.clear_ #[25] ty #[.slice (some ⟨g, m, none⟩) 1 (cap - m)]).run Try.prog W1 = .ok (.tuple #[]) (W1.setCells g m [.int .i64 0]) := fun ty => Hcl.out W1 ty
      (fun j hj => by
        have hj2 : m + j < (m + 1) := by have : j < 1 := hj; omega
        rw [HO1.out.cellAt _ (by rw [HL.out]; omega), List.getElem?_eq_getElem (by rw [hsz]; exact hj2)]; rfl)
      (fun j _ => HO1.out.frozenAt _)
    have Hfin := box (setL_own [.int .i64 0] m W1 _ HO1.out)
    clear hO1 hG1 hend hW1 hsz
    go_wp2_with fail
    go_ret
    refine ⟨by rw [HEl.out]; rfl, ?_, ⟨Hfin.out.2.os.trans HG1.out.os, Hfin.out.2.tape.trans HG1.out.tape, Hfin.out.2.output.trans HG1.out.output, Nat.le_trans HG1.out.size Hfin.out.2.size, fun k hk hne => (Hfin.out.2.block k (Nat.lt_of_lt_of_le hk HG1.out.size) hne).trans (HG1.out.block k hk hne)⟩⟩
    have hc := own_cut1 Hfin.out.1 (i := m) (by rw [HL.out]; omega)
    rw [HEr.out] at hc
    rw [HEl.out]; exact hc
  case pos =>
    have him : i = m := by omega
    subst him
    have hn0 : news = [] := List.eq_nil_of_length_eq_zero (by rw [S0.out]; omega)
    have Hsrc0 : Box (∀ j u, news[j]? = some u → w.drew.cell? ((⟨g, 0, none⟩ : Addr).add j) = some u) := ⟨fun j u hu => by rw [hn0] at hu; simp at hu⟩
    clear hn0 hmi
    subst hcc
    have hz : i - i = 0 := Nat.sub_self _
    have hz1' : i + 1 - (i + 1) = 0 := Nat.sub_self _
    have S0' : Box (news.length = 0 * 1) := ⟨by rw [S0.out, hz]⟩
    go_enter Try.func72, Try.ntmps72
    go_wp2_with fail
    go_region_law (refine step_append_room rfl (.tmp 22) (.tmp 25) 25 rfl 3 i0 1 Try.underlying25 hi0 hz1 g 0 i (i + 1) (by simp [Act.eval, Act.put]) ⟨g, 0, none⟩ 0 0 news (by simp [Act.eval, Act.put]) S0'.out Hsrc0.out S1.out (by omega) Hws.out ?_; generalize hW1 : w.drew.setCells g (0 + i * 1) news = W1)
    obtain ⟨hO1, hG1⟩ := (hend W1 hW1.symm).out
    have HO1 := box hO1; have HG1 := box hG1
    have hsz : (setL (intVals l) i (intVals (l.drop (i + 1)))).length = (i + 1) := by rw [setL_len, intVals_len, HL.out]
    have hcl : ∀ ty, (Builtin.clear_ #[25] ty #[.slice (some ⟨g, i, none⟩) 1 (i + 1 - i)]).run Try.prog W1 = .ok (.tuple #[]) (W1.setCells g i [.int .i64 0]) := fun ty => Hcl.out W1 ty
      (fun j hj => by
        have hj2 : i + j < (i + 1) := by have : j < 1 := hj; omega
        rw [HO1.out.cellAt _ (by rw [HL.out]; omega), List.getElem?_eq_getElem (by rw [hsz]; exact hj2)]; rfl)
      (fun j _ => HO1.out.frozenAt _)
    rw [show i + 1 - i = 1 by omega] at hcl
    have Hfin := box (setL_own [.int .i64 0] i W1 _ HO1.out)
    clear hO1 hG1 hend hW1 hsz
    go_wp2_with fail
    go_ret
    refine ⟨by rw [HEl.out]; rfl, ?_, ⟨Hfin.out.2.os.trans HG1.out.os, Hfin.out.2.tape.trans HG1.out.tape, Hfin.out.2.output.trans HG1.out.output, Nat.le_trans HG1.out.size Hfin.out.2.size, fun k hk hne => (Hfin.out.2.block k (Nat.lt_of_lt_of_le hk HG1.out.size) hne).trans (HG1.out.block k hk hne)⟩⟩
    have hc := own_cut1 Hfin.out.1 (i := i) (by rw [HL.out]; omega)
    rw [HEr.out] at hc
    rw [HEl.out]; exact hc
end Go.Proofs.Ytnolidjjeknmmaa
