/- slices.Equal over records, '==' of pages. -/
import Derived.Test.YtfmgncfikaefhaaRedoV
import Derived.Test.YtfmgncfikaefhaaRedoP
import Derived.DeepKeys
namespace Go.Proofs.Ytfmgncfikaefhaa
open Go.RowKit Go.Lib

instance : DecidableEq RecM := fun x y => by
  obtain ⟨a, b, c, d, e⟩ := x
  obtain ⟨a', b', c', d', e'⟩ := y
  exact decidable_of_iff (a = a' ∧ b = b' ∧ c = c' ∧ d = d' ∧ e = e') (by simp)

theorem rec_eq (o o' : RecM) (w : World) : (Op.equalIn 10000 25 (.agg #[.int .i64 o.kind, .int .i64 o.tx, .int .i64 o.item, .int .i64 o.old, .int .i64 o.new]) (.agg #[.int .i64 o'.kind, .int .i64 o'.tx, .int .i64 o'.item, .int .i64 o'.old, .int .i64 o'.new])).run Try.prog w = .ok (decide (o = o')) w := by
  obtain ⟨a0, a1, a2, a3, a4⟩ := o
  obtain ⟨c0, c1, c2, c3, c4⟩ := o'
  have hd : decide ((⟨a0, a1, a2, a3, a4⟩ : RecM) = ⟨c0, c1, c2, c3, c4⟩) = (a0 == c0 && (a1 == c1 && (a2 == c2 && (a3 == c3 && a4 == c4)))) := by
    rw [Bool.eq_iff_iff]; simp
  rw [hd]
  dsimp only
  cases h0 : (a0 == c0) <;> cases h1 : (a1 == c1) <;> cases h2 : (a2 == c2) <;> cases h3 : (a3 == c3) <;> cases h4 : (a4 == c4) <;> go_simp
theorem page_eq (a b : Int) (w : World) : (Op.equalIn 9999 27 (.agg #[.int .i64 a, .int .i64 b]) (.agg #[.int .i64 a, .int .i64 b])).run Try.prog w = .ok true w := by
  go_simp
theorem page_part (i : Nat) (hi : i < 20) (p : Int → PageM) (w : World) : (part 27 (pgVals p).toArray (i * 2)).run Try.prog w = .ok (.agg #[.int .i64 (p i).value, .int .i64 (p i).lsn]) w := by
  unfold part
  go_simp
  apply List.ext_getElem
  · simp [pgVals_len]; omega
  · intro j h1 h2
    have hj : j < 2 := by simpa using h2
    simp only [List.getElem_take, List.getElem_drop]
    unfold pgVals Tab
    simp only [List.getElem_map, List.getElem_range]
    rcases (show j = 0 ∨ j = 1 by omega) with rfl | rfl
    · rw [if_pos (by omega), show (i * 2 + 0) / 2 = i by omega]; rfl
    · rw [if_neg (by omega), show (i * 2 + 1) / 2 = i by omega]; rfl
theorem pageItems_same (p : Int → PageM) (w : World) : ∀ is : List Nat, (∀ i ∈ is, i < 20) → (Op.eqItems 9999 27 2 (pgVals p).toArray (pgVals p).toArray is).run Try.prog w = .ok true w
  | [], _ => by simp [Op.eqItems]
  | i :: is, h => by
    have h1 := page_part i (h i (by simp)) p w
    simp only [Op.eqItems, Sem.run_bind, h1, Result.andThen_ok, page_eq, Bool.not_true, Bool.false_eq_true, if_false]
    exact pageItems_same p w is (fun j hj => h j (by simp [hj]))
theorem pages_same (p : Int → PageM) (w : World) : (Op.equalIn 10000 28 (.agg (pgVals p).toArray) (.agg (pgVals p).toArray)).run Try.prog w = .ok true w := by
  have hI : (Try.prog.info? 27).isSome = true := by kernel_rfl
  obtain ⟨i0, hi0⟩ := Option.isSome_iff_exists.1 hI
  have hc : Try.prog.cellsOf 27 = 2 := by kernel_rfl
  rw [run_equalIn_array w 9999 _ _ Try.underlying28 hi0, hc, pageItems_same]
  intro i hi
  exact List.mem_range.1 hi

attribute [-go_sem] run_equalIn_agg in
set_option maxRecDepth 20000 in
set_option maxHeartbeats 2000000 in
theorem equal_recs (l m : List RecM) (ao bo : Option Addr) (cap cap' : Nat) (w : World) (h : RecsAt w ao l) (h' : RecsAt w bo m) (hn : l.length ≤ 9000000000000) (hm : m.length ≤ 9000000000000) :
    Calls Try.prog 11 #[.slice ao l.length cap, .slice bo m.length cap'] w fun e w' => e = .returned (.bool (decide (l = m))) ∧ ∃ n, w' = w.drewN n := by
  have H := box h; have H' := box h'
  clear h h'
  by_cases hl : l.length = m.length
  case neg =>
    have q0 : ((l.length : Int) == (m.length : Int)) = false := by simp; omega
    have q1 : ((l.length : Int) != (m.length : Int)) = true := by simp; omega
    have Hd : Box (decide (l = m) = false) := ⟨by
      rw [decide_eq_false_iff_not]
      rintro rfl; exact hl rfl⟩
    clear hl
    go_enter Try.func11, Try.ntmps11
    go_wp2_with fail
    go_ret
    exact ⟨by rw [Hd.out]; rfl, 0, rfl⟩
  have Hl := box hl
  rw [← hl]
  clear hl
  have q0 : ((l.length : Int) == (l.length : Int)) = true := by simp
  go_enter Try.func11, Try.ntmps11
  go_wp2_with fail
  go_loopw [13] (fun t13 wr => ∃ k n : Nat, wr = w.drewN n ∧ k ≤ l.length ∧ t13 = .int .i64 (k : Int) ∧ Box (∀ j (h : j < l.length) (h' : j < m.length), j < k → l[j] = m[j])) (fun t13 _ => l.length - (intOf t13).toNat)
  case atStart => exact ⟨0, 0, rfl, Nat.zero_le _, rfl, ⟨fun j _ _ h => by omega⟩⟩
  case round =>
    obtain ⟨k, n0, rfl, hk, rfl, Hall⟩ := hrel
    by_cases hlt : k < l.length
    · have hlt' : k < m.length := by have := Hl.out; omega
      obtain ⟨b, off, rfl, _, hrow⟩ := (H.out.resolve_left (by intro h; rw [h] at hlt; simp at hlt))
      obtain ⟨b', off', rfl, _, hrow'⟩ := (H'.out.resolve_left (by intro h; rw [h] at hlt'; simp at hlt'))
      obtain ⟨hc0, hc1, hc2, hc3, hc4⟩ := hrow k hlt
      obtain ⟨hd0, hd1, hd2, hd3, hd4⟩ := hrow' k hlt'
      have HN : Box (l[k] = m[k] → ∀ j (h : j < l.length) (h' : j < m.length), j < k + 1 → l[j] = m[j]) := ⟨fun he j h h' hj => by
        by_cases e : j = k
        · subst e; exact he
        · exact Hall.out j h h' (by omega)⟩
      have HD : Box (l[k] ≠ m[k] → decide (l = m) = false) := ⟨fun hne => by
        rw [decide_eq_false_iff_not]
        rintro rfl; exact hne rfl⟩
      have HQ := rec_eq l[k] m[k]
      generalize l[k] = o at *
      generalize m[k] = o' at *
      clear hrow hrow'
      by_cases e : o = o'
      · have he := HN.out e
        rw [decide_eq_true e] at HQ
        have HE := box he
        clear he e
        generalize o.kind = a0 at *; generalize o.tx = a1 at *; generalize o.item = a2 at *; generalize o.old = a3 at *; generalize o.new = a4 at *
        generalize o'.kind = d0 at *; generalize o'.tx = d1 at *; generalize o'.item = d2 at *; generalize o'.old = d3 at *; generalize o'.new = d4 at *
        go_wp2_with fail
        go_quiet (fail)
        go_wp2_with fail
        go_roundw
        case rel => exact ⟨k + 1, n0 + nq, rfl, hlt, by go_num, HE⟩
        case measure => simp [intOf]; omega
      · have he := HD.out e
        rw [decide_eq_false e] at HQ
        have HE := box he
        clear he e
        generalize o.kind = a0 at *; generalize o.tx = a1 at *; generalize o.item = a2 at *; generalize o.old = a3 at *; generalize o.new = a4 at *
        generalize o'.kind = d0 at *; generalize o'.tx = d1 at *; generalize o'.item = d2 at *; generalize o'.old = d3 at *; generalize o'.new = d4 at *
        go_wp2_with fail
        go_quiet (fail)
        go_wp2_with fail
        go_ret
        exact ⟨by rw [HE.out]; rfl, n0 + nq, World.drewN_drewN _ _ _⟩
    · have hkn : k = l.length := by omega
      subst hkn
      go_wp2_with fail
      go_ret
      refine ⟨?_, n0, rfl⟩
      have : l = m := List.ext_getElem Hl.out (fun i h1 h2 => Hall.out i h1 h2 h1)
      simp [this]
end Go.Proofs.Ytfmgncfikaefhaa
