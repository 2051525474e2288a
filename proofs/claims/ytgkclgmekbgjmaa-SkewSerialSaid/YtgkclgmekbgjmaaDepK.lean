/- slices.Compact over dependencies. -/
import Derived.Test.YtgkclgmekbgjmaaDepA
import Derived.Test.YtgkclgmekbgjmaaDelG
import Derived.IntWalk
import Derived.BigQuiet
namespace Go.Proofs.Ytgkclgmekbgjmaa
open Go.RowKit Go.Lib

/-- Compact, in its second loop: k kept, j - 1 looked at, ys in the row. -/
structure DepM.Cp (l : List DepM) (k j : Nat) (ys : List DepM) : Prop where
  len : ys.length = l.length
  one : 1 ≤ k
  lt : k < j
  le : j ≤ l.length
  take : ys.take k = DepM.firsts l j
  drop : ys.drop (j - 1) = l.drop (j - 1)
section
variable {l ys : List DepM} {k j : Nat}
theorem DepM.Cp.at (h : DepM.Cp l k j ys) {i : Nat} (hi : i < l.length) (hji : j ≤ i + 1) : ys[i]? = some l[i] := by
  have h1 := congrArg (fun m => m[i - (j - 1)]?) h.drop
  simp only [List.getElem?_drop] at h1
  rw [show j - 1 + (i - (j - 1)) = i by omega] at h1
  rw [h1, List.getElem?_eq_getElem hi]
theorem DepM.Cp.skip (h : DepM.Cp l k j ys) (hj : j < l.length) (he : l[j]! = l[j - 1]!) : DepM.Cp l k (j + 1) ys := by
  refine ⟨h.len, h.one, by have := h.lt; omega, hj, ?_, ?_⟩
  · have h1 := h.lt
    have h2 : ¬ (j = 0 ∨ l[j]! ≠ l[j - 1]!) := fun h2 => h2.elim (fun h => by omega) (fun h => h he)
    rw [DepM.firsts_succ, if_neg h2, List.append_nil, h.take]
  · have h1 := h.lt
    have := congrArg (List.drop 1) h.drop
    rw [List.drop_drop, List.drop_drop] at this
    rwa [show j - 1 + 1 = j + 1 - 1 by omega] at this
theorem DepM.Cp.keep (h : DepM.Cp l k j ys) (hj : j < l.length) (he : l[j]! ≠ l[j - 1]!) : DepM.Cp l (k + 1) (j + 1) (ys.set k l[j]) := by
  have hl := h.len
  have hlt := h.lt
  refine ⟨by simp [hl], by omega, by omega, hj, ?_, ?_⟩
  · rw [DepM.firsts_succ, if_pos (Or.inr he), ← h.take, getElem!_pos l j hj]
    rw [List.take_succ_eq_append_getElem (by simp; omega), List.getElem_set_self, List.take_set, List.set_eq_of_length_le (by simp; omega)]
  · rw [show j + 1 - 1 = j by omega, List.drop_set_of_lt (by omega)]
    have := congrArg (List.drop 1) h.drop
    rw [List.drop_drop, List.drop_drop] at this
    rwa [show j - 1 + 1 = j by omega] at this
theorem DepM.Cp.start (hk : 1 ≤ k) (hkl : k < l.length) (hall : ∀ i, 0 < i → i < k → l[i]! ≠ l[i - 1]!) (he : l[k]! = l[k - 1]!) : DepM.Cp l k (k + 1) l := by
  have h2 : ¬ (k = 0 ∨ l[k]! ≠ l[k - 1]!) := fun h2 => h2.elim (fun h => by omega) (fun h => h he)
  exact ⟨rfl, hk, by omega, hkl, by rw [DepM.firsts_succ, if_neg h2, List.append_nil, DepM.firsts_all l k (by omega) hall], rfl⟩
theorem DepM.Cp.done (h : DepM.Cp l k l.length ys) : k = (DepM.compact l).length ∧ ys.take k = DepM.compact l := by
  refine ⟨?_, h.take⟩
  have h2 := congrArg List.length h.take
  rw [List.length_take, h.len] at h2
  have := h.lt
  unfold DepM.compact
  omega
end
theorem dep_eq (o o' : DepM) (w : World) : (Op.equalIn 10000 106 (.agg #[.int .i64 o.frm, .int .i64 o.to_, .int .i64 o.kind]) (.agg #[.int .i64 o'.frm, .int .i64 o'.to_, .int .i64 o'.kind])).run Try.prog w = .ok (decide (o = o')) w := by
  obtain ⟨a0, a1, a2⟩ := o
  obtain ⟨c0, c1, c2⟩ := o'
  have hd : decide ((⟨a0, a1, a2⟩ : DepM) = ⟨c0, c1, c2⟩) = (a0 == c0 && (a1 == c1 && a2 == c2)) := by
    rw [Bool.eq_iff_iff]; simp
  rw [hd]
  dsimp only
  cases h0 : (a0 == c0) <;> cases h1 : (a1 == c1) <;> cases h2 : (a2 == c2) <;> go_simp
theorem Try.zeroDep (w : World) : (zeroValue 106).run Try.prog w = .ok (.agg #[.int .i64 0, .int .i64 0, .int .i64 0]) w := by kernel_rfl
theorem ownsRow_ext {w w' : World} {B e size n : Nat} {v : Value} {xs : List Value} (h : w.ownsRow B e size v n xs) (hw : w'.heap = w.heap) : w'.ownsRow B e size v n xs := by
  refine ⟨h.1, ?_⟩
  rcases h.2 with h1 | ⟨g, cap, cur, rfl, h2, h3, h4⟩
  · exact Or.inl h1
  · exact Or.inr ⟨g, cap, cur, rfl, h2, by rw [hw]; exact h3, h4⟩

/-- What Compact leaves. -/
def DepM.CpPost (base : Nat) (l : List DepM) (w : World) (e : Ending) (w' : World) : Prop :=
  ∃ v', e = .returned v' ∧ w'.ownsRow base 106 3 v' (DepM.compact l).length (dpVals (DepM.compact l)) ∧ w.heap.size ≤ w'.heap.size ∧ (base ≤ w.heap.size → Below base w w')

attribute [-go_sem] run_equalIn_agg in
set_option maxRecDepth 20000 in
set_option maxHeartbeats 4000000 in
theorem compactDeps_any (l : List DepM) (v : Value) (base : Nat) (w : World) (ho : w.ownsRow base 106 3 v l.length (dpVals l)) (hn : l.length ≤ 9000000000000) :
    Calls Try.prog 99 #[v] w (DepM.CpPost base l w) := by
  obtain ⟨ao, cap, rfl, _, _, _, hcap⟩ := DpsAt.own ho
  have HO := box ho
  have HNeg : Box (∀ k, k = l.length → (∀ i, 0 < i → i < k → l[i]! ≠ l[i - 1]!) → DepM.compact l = l) := ⟨fun k hk h => by
    unfold DepM.compact
    rw [DepM.firsts_all l _ (Nat.le_refl _) (by rw [← hk]; exact h), List.take_length]⟩
  have HSt := box (fun k hk hkl hall he => DepM.Cp.start (l := l) (k := k) hk hkl hall he)
  clear ho
  obtain ⟨N, HN⟩ : ∃ N, Box (l.length = N) := ⟨_, ⟨rfl⟩⟩
  rw [HN.out] at HO HNeg hn hcap ⊢
  obtain ⟨Post, HP⟩ : ∃ P, Box (DepM.CpPost base l w = P) := ⟨_, ⟨rfl⟩⟩
  have HPost : Box (∀ v' w', w'.ownsRow base 106 3 v' (DepM.compact l).length (dpVals (DepM.compact l)) → w.heap.size ≤ w'.heap.size → (base ≤ w.heap.size → Below base w w') → Post (.returned v') w') := ⟨by rw [← HP.out]; exact fun v' w' h1 h2 h3 => ⟨v', rfl, h1, h2, h3⟩⟩
  rw [HP.out]
  clear HP
  by_cases hlt2 : N < 2
  · have hlt2i : (N : Int) < 2 := by omega
    have HE : Box (DepM.compact l = l) := ⟨HNeg.out N rfl (fun i h0 h1 => by omega)⟩
    go_enter Try.func99, Try.ntmps99
    go_wp2_with fail
    refine HPost.out _ _ ?_ (Nat.le_refl _) (fun _ => Below.refl _ _)
    rw [HE.out, HN.out]; exact HO.out
  have hlt2i : ¬ (N : Int) < 2 := by omega
  obtain ⟨b0, cap0, hv, hg1, hg2, hg3⟩ := ownsRow_shape HO.out (by intro h; injection h with _ h2 _; omega)
  injection hv with hv1 hv2 hv3
  subst hv1
  clear hv2 hv3 hg3 cap0
  have HDw : Box (∀ (wr : World) (q : Nat), wr = w.drewN q → Below w.heap.size w wr ∧ wr.heap = w.heap) := ⟨fun wr q h => by subst h; exact ⟨⟨rfl, rfl, rfl, Nat.le_refl _, fun _ _ => rfl⟩, rfl⟩⟩
  go_enter Try.func99, Try.ntmps99
  go_wp2_with fail
  go_loopw [3] (fun t3 wr => ∃ k : Nat, 1 ≤ k ∧ k ≤ N ∧ t3 = .int .i64 (k : Int) ∧ Box (Below w.heap.size w wr ∧ wr.heap = w.heap) ∧ Box (∀ i, 0 < i → i < k → l[i]! ≠ l[i - 1]!)) (fun t3 _ => N - (RowKit.intOf t3).toNat)
  case atStart => exact ⟨1, Nat.le_refl _, by omega, rfl, ⟨Below.refl _ _, rfl⟩, ⟨fun i h0 h1 => by omega⟩⟩
  case round =>
    obtain ⟨k, hk1, hk, rfl, HB, HAll⟩ := hrel
    by_cases hlt : k < N
    · have HO1 := box (ownsRow_ext HO.out HB.out.2)
      have hkl : k < l.length := by rw [HN.out]; exact hlt
      have hkl1 : k - 1 < l.length := by omega
      obtain ⟨c0, c1, c2⟩ := dpVals_at l k hkl
      obtain ⟨d0, d1, d2⟩ := dpVals_at l (k - 1) hkl1
      rw [← HO1.out.cellAt (k * 3) (by omega)] at c0
      rw [← HO1.out.cellAt (k * 3 + 1) (by omega)] at c1
      rw [← HO1.out.cellAt (k * 3 + 2) (by omega)] at c2
      rw [← HO1.out.cellAt ((k - 1) * 3) (by omega)] at d0
      rw [← HO1.out.cellAt ((k - 1) * 3 + 1) (by omega)] at d1
      rw [← HO1.out.cellAt ((k - 1) * 3 + 2) (by omega)] at d2
      have hwr : IntKind.i64.wrap ((k : Int) - 1) = ((k - 1 : Nat) : Int) := by
        rw [IntWalk.i64_in _ (by omega)]; omega
      have htn : ((k : Int) - 1).toNat = k - 1 := by omega
      have hge : (0 : Int) ≤ (k : Int) - 1 := by omega
      have hltn : (k : Int) - 1 < (N : Int) := by omega
      have hk1N : k - 1 < N := by omega
      have Hx : Box (l[k]! = l[k]) := ⟨getElem!_pos l k hkl⟩
      have Hy : Box (l[k - 1]! = l[k - 1]) := ⟨getElem!_pos l (k - 1) hkl1⟩
      obtain ⟨x, HX⟩ : ∃ x, Box (l[k] = x) := ⟨_, ⟨rfl⟩⟩
      obtain ⟨y, HY⟩ : ∃ y, Box (l[k - 1] = y) := ⟨_, ⟨rfl⟩⟩
      rw [HX.out] at c0 c1 c2 Hx
      rw [HY.out] at d0 d1 d2 Hy
      obtain ⟨p, Hp⟩ : ∃ p, Box (decide (x = y) = p) := ⟨_, ⟨rfl⟩⟩
      have heq : ∀ w, (Op.equalIn 10000 106 (.agg #[.int .i64 x.frm, .int .i64 x.to_, .int .i64 x.kind]) (.agg #[.int .i64 y.frm, .int .i64 y.to_, .int .i64 y.kind])).run Try.prog w = .ok p w := by rw [← Hp.out]; exact dep_eq x y
      obtain ⟨x0, x1, x2⟩ := x
      obtain ⟨y0, y1, y2⟩ := y
      simp only at c0 c1 c2 d0 d1 d2 heq
      go_wp2_with fail
      go_cut [25] (fun s25 wx => s25 = .bool p ∧ ∃ nq, wx = wr.drewN nq)
      case first =>
        go_quiet (fail)
        all_goals go_wp2_with fail
        all_goals go_meet
        all_goals exact ⟨rfl, _, rfl⟩
      case rest =>
      obtain ⟨rfl, nq, rfl⟩ := hcut
      have HB2 : Box (Below w.heap.size w (wr.drewN nq) ∧ (wr.drewN nq).heap = w.heap) := ⟨HB.out.1.trans ⟨rfl, rfl, rfl, Nat.le_refl _, fun _ _ => rfl⟩, HB.out.2⟩
      clear HB HO1 c0 c1 c2 d0 d1 d2
      generalize wr.drewN nq = W at *
      cases p with
      | false =>
        have HA2 : Box (∀ i, 0 < i → i < k + 1 → l[i]! ≠ l[i - 1]!) := ⟨fun i h0 h1 => by
          by_cases e : i = k
          · subst e; rw [Hx.out, Hy.out]; exact of_decide_eq_false Hp.out
          · exact HAll.out i h0 (by omega)⟩
        go_wp2_with fail
        go_roundw
        case rel => exact ⟨k + 1, by omega, by omega, by go_num, HB2, HA2⟩
        case measure => simp [RowKit.intOf]; omega
      | true =>
        have HC : Box (DepM.Cp l k (k + 1) l) := ⟨HSt.out k hk1 hkl HAll.out (by rw [Hx.out, Hy.out]; exact of_decide_eq_true Hp.out)⟩
        have HOw := box (ownsRow_ext HO.out HB2.out.2)
        clear heq Hx Hy HX HY Hp
        have hkc : (k : Int) ≤ (cap : Int) := by omega
        have hkN : (k : Int) ≤ (N : Int) := by omega
        go_wp2_with fail
        go_loopw [3, 5] (fun t3 t5 wr => ∃ (i j : Nat) (ys : List DepM), t3 = .int .i64 (i : Int) ∧ t5 = .int .i64 (j : Int) ∧ 1 ≤ i ∧ i < k + j ∧ 1 ≤ j ∧ k + j ≤ N ∧ Box (DepM.Cp l i (k + j) ys ∧ wr.ownsRow base 106 3 (.slice (some ⟨b0, 0, none⟩) N cap) N (dpVals ys) ∧ w.heap.size ≤ wr.heap.size ∧ (base ≤ w.heap.size → Below base w wr))) (fun _ t5 _ => N - (RowKit.intOf t5).toNat)
        case atStart => exact ⟨k, 1, l, rfl, rfl, hk1, by omega, by omega, by omega, ⟨HC.out, HOw.out, HB2.out.1.size, fun h => HB2.out.1.mono h⟩⟩
        case round =>
          obtain ⟨i, j, ys, rfl, rfl, hi1, hij, hj1, hjN, HR⟩ := hrel
          by_cases hjt : k + j < N
          · have hkl : k + j < l.length := by rw [HN.out]; exact hjt
            have hkl1 : k + j - 1 < l.length := by omega
            have hyl := box HR.out.1.len
            have hy1 := dpVals_at ys (k + j) (by rw [hyl.out]; exact hkl)
            have hy2 := dpVals_at ys (k + j - 1) (by rw [hyl.out]; exact hkl1)
            have hyj : ys[k + j]'(by rw [hyl.out]; exact hkl) = l[k + j] := by
              have := HR.out.1.at hkl (by omega)
              rw [List.getElem?_eq_getElem (by rw [hyl.out]; exact hkl)] at this
              exact Option.some.inj this
            have hyj2 : ys[k + j - 1]'(by rw [hyl.out]; exact hkl1) = l[k + j - 1] := by
              have := HR.out.1.at hkl1 (by omega)
              rw [List.getElem?_eq_getElem (by rw [hyl.out]; exact hkl1)] at this
              exact Option.some.inj this
            rw [hyj] at hy1
            rw [hyj2] at hy2
            obtain ⟨x, HX⟩ : ∃ x, Box (l[k + j] = x) := ⟨_, ⟨rfl⟩⟩
            obtain ⟨y, HY⟩ : ∃ y, Box (l[k + j - 1] = y) := ⟨_, ⟨rfl⟩⟩
            have Hx : Box (l[k + j]! = x) := ⟨by rw [getElem!_pos l (k + j) hkl]; exact HX.out⟩
            have Hy : Box (l[k + j - 1]! = y) := ⟨by rw [getElem!_pos l (k + j - 1) hkl1]; exact HY.out⟩
            rw [HX.out] at hy1
            rw [HY.out] at hy2
            have c0 : wr.cell? ⟨b0, k * 3 + j * 3, none⟩ = some (.int .i64 x.frm) := by rw [HR.out.2.1.cellAt (k * 3 + j * 3) (by omega), show k * 3 + j * 3 = (k + j) * 3 by omega]; exact hy1.1
            have c1 : wr.cell? ⟨b0, k * 3 + j * 3 + 1, none⟩ = some (.int .i64 x.to_) := by rw [HR.out.2.1.cellAt (k * 3 + j * 3 + 1) (by omega), show k * 3 + j * 3 = (k + j) * 3 by omega]; exact hy1.2.1
            have c2 : wr.cell? ⟨b0, k * 3 + j * 3 + 2, none⟩ = some (.int .i64 x.kind) := by rw [HR.out.2.1.cellAt (k * 3 + j * 3 + 2) (by omega), show k * 3 + j * 3 = (k + j) * 3 by omega]; exact hy1.2.2
            have d0 : wr.cell? ⟨b0, k * 3 + (j - 1) * 3, none⟩ = some (.int .i64 y.frm) := by rw [HR.out.2.1.cellAt (k * 3 + (j - 1) * 3) (by omega), show k * 3 + (j - 1) * 3 = (k + j - 1) * 3 by omega]; exact hy2.1
            have d1 : wr.cell? ⟨b0, k * 3 + (j - 1) * 3 + 1, none⟩ = some (.int .i64 y.to_) := by rw [HR.out.2.1.cellAt (k * 3 + (j - 1) * 3 + 1) (by omega), show k * 3 + (j - 1) * 3 = (k + j - 1) * 3 by omega]; exact hy2.2.1
            have d2 : wr.cell? ⟨b0, k * 3 + (j - 1) * 3 + 2, none⟩ = some (.int .i64 y.kind) := by rw [HR.out.2.1.cellAt (k * 3 + (j - 1) * 3 + 2) (by omega), show k * 3 + (j - 1) * 3 = (k + j - 1) * 3 by omega]; exact hy2.2.2
            have hwr : IntKind.i64.wrap ((j : Int) - 1) = ((j - 1 : Nat) : Int) := by
              rw [IntWalk.i64_in _ (by omega)]; omega
            have htn : ((j : Int) - 1).toNat = j - 1 := by omega
            have hge : (0 : Int) ≤ (j : Int) - 1 := by omega
            have hltn : (j : Int) - 1 < ((N - k : Nat) : Int) := by omega
            have hj1N : j - 1 < N - k := by omega
            have hjN2 : j < N - k := by omega
            have hjN3 : (j : Int) < ((N - k : Nat) : Int) := by omega
            obtain ⟨p, Hp⟩ : ∃ p, Box (decide (x = y) = p) := ⟨_, ⟨rfl⟩⟩
            have heq : ∀ w, (Op.equalIn 10000 106 (.agg #[.int .i64 x.frm, .int .i64 x.to_, .int .i64 x.kind]) (.agg #[.int .i64 y.frm, .int .i64 y.to_, .int .i64 y.kind])).run Try.prog w = .ok p w := by rw [← Hp.out]; exact dep_eq x y
            have HSk := box (fun h => HR.out.1.skip hkl h)
            have HKe := box (fun h => HR.out.1.keep hkl h)
            rw [Hx.out, Hy.out] at HSk HKe
            rw [HX.out] at HKe
            clear hy1 hy2 hyj hyj2
            obtain ⟨x0, x1, x2⟩ := x
            obtain ⟨y0, y1, y2⟩ := y
            simp only at c0 c1 c2 d0 d1 d2 heq
            have HC0 : Box (wr.cell? ⟨b0, k * 3 + j * 3, none⟩ = some (.int .i64 x0) ∧ wr.cell? ⟨b0, k * 3 + j * 3 + 1, none⟩ = some (.int .i64 x1) ∧ wr.cell? ⟨b0, k * 3 + j * 3 + 2, none⟩ = some (.int .i64 x2)) := ⟨c0, c1, c2⟩
            go_wp2_with fail
            go_cut [44] (fun s44 wx => s44 = .bool (!p) ∧ ∃ nq, wx = wr.drewN nq)
            case first =>
              go_quiet (fail)
              all_goals go_wp2_with fail
              all_goals go_meet
              all_goals exact ⟨rfl, _, rfl⟩
            case rest =>
            obtain ⟨rfl, nq, rfl⟩ := hcut
            have HB3 : Box (Below wr.heap.size wr (wr.drewN nq)) := ⟨⟨rfl, rfl, rfl, Nat.le_refl _, fun _ _ => rfl⟩⟩
            have HO3 := box (ownsRow_ext HR.out.2.1 (show (wr.drewN nq).heap = wr.heap from rfl))
            have HS3 : Box (w.heap.size ≤ (wr.drewN nq).heap.size ∧ (base ≤ w.heap.size → Below base w (wr.drewN nq))) := ⟨HR.out.2.2.1, fun h => (HR.out.2.2.2 h).trans (HB3.out.mono (by have := HR.out.2.2.1; omega))⟩
            clear c0 c1 c2 d0 d1 d2 HB3 heq hwr htn hge hltn hj1N
            generalize wr.drewN nq = W3 at *
            cases p with
            | true =>
              have HD := box (HSk.out (of_decide_eq_true Hp.out))
              rw [show k + j + 1 = k + (j + 1) by omega] at HD
              go_wp2_with fail
              go_roundw
              case rel => exact ⟨i, j + 1, ys, rfl, by go_num, hi1, by omega, by omega, by omega, ⟨HD.out, HO3.out, HS3.out.1, HS3.out.2⟩⟩
              case measure => simp [RowKit.intOf]; omega
            | false =>
              have HD := box (HKe.out (of_decide_eq_false Hp.out))
              rw [show k + j + 1 = k + (j + 1) by omega] at HD
              have hil : i < ys.length := by rw [hyl.out]; omega
              have hyi := dpVals_at ys i hil
              have c0 : W3.cell? ⟨b0, k * 3 + j * 3, none⟩ = some (.int .i64 x0) := by
                rw [HO3.out.cellAt (k * 3 + j * 3) (by omega), ← HR.out.2.1.cellAt (k * 3 + j * 3) (by omega)]; exact HC0.out.1
              have c1 : W3.cell? ⟨b0, k * 3 + j * 3 + 1, none⟩ = some (.int .i64 x1) := by
                rw [HO3.out.cellAt (k * 3 + j * 3 + 1) (by omega), ← HR.out.2.1.cellAt (k * 3 + j * 3 + 1) (by omega)]; exact HC0.out.2.1
              have c2 : W3.cell? ⟨b0, k * 3 + j * 3 + 2, none⟩ = some (.int .i64 x2) := by
                rw [HO3.out.cellAt (k * 3 + j * 3 + 2) (by omega), ← HR.out.2.1.cellAt (k * 3 + j * 3 + 2) (by omega)]; exact HC0.out.2.2
              have e0 : W3.cell? ⟨b0, i * 3, none⟩ = some (.int .i64 ys[i].frm) := by rw [HO3.out.cellAt (i * 3) (by omega)]; exact hyi.1
              have e1 : W3.cell? ⟨b0, i * 3 + 1, none⟩ = some (.int .i64 ys[i].to_) := by rw [HO3.out.cellAt (i * 3 + 1) (by omega)]; exact hyi.2.1
              have e2 : W3.cell? ⟨b0, i * 3 + 2, none⟩ = some (.int .i64 ys[i].kind) := by rw [HO3.out.cellAt (i * 3 + 2) (by omega)]; exact hyi.2.2
              have f0 := HO3.out.frozenAt (i * 3)
              have f1 := HO3.out.frozenAt (i * 3 + 1)
              have f2 := HO3.out.frozenAt (i * 3 + 2)
              have hst := (((HO3.out.stored (i * 3) (.int .i64 x0)).1.stored (i * 3 + 1) (.int .i64 x1)).1.stored (i * 3 + 2) (.int .i64 x2)).1
              rw [dpVals_set ys i ⟨x0, x1, x2⟩ hil] at hst
              have HSt2 := box hst
              have HBe : Box (base ≤ w.heap.size → Below base w (((W3.setCell ⟨b0, i * 3, none⟩ (.int .i64 x0)).setCell ⟨b0, i * 3 + 1, none⟩ (.int .i64 x1)).setCell ⟨b0, i * 3 + 2, none⟩ (.int .i64 x2))) := ⟨fun h => (((HS3.out.2 h).setCell (by simpa using hg1) _).setCell (by simpa using hg1) _).setCell (by simpa using hg1) _⟩
              obtain ⟨yy, Hyy⟩ : ∃ yy, Box (ys[i] = yy) := ⟨_, ⟨rfl⟩⟩
              rw [Hyy.out] at e0 e1 e2
              obtain ⟨z0, z1, z2⟩ := yy
              simp only at e0 e1 e2
              have hiN : (i : Int) < (N : Int) := by omega
              clear hyi hst
              go_wp2_with fail
              go_roundw
              case rel => exact ⟨i + 1, j + 1, ys.set i ⟨x0, x1, x2⟩, by go_num, by go_num, by omega, by omega, by omega, by omega, ⟨HD.out, HSt2.out, by simpa using HS3.out.1, HBe.out⟩⟩
              case measure => simp [RowKit.intOf]; omega
          · have HE : Box (k + j = N) := ⟨by omega⟩
            have hjn : ¬ j < N - k := by omega
            have hjn2 : ¬ (j : Int) < ((N - k : Nat) : Int) := by omega
            have HDn : Box (i = (DepM.compact l).length ∧ ys.take i = DepM.compact l) := ⟨by
              have h1 := HR.out.1
              rw [HE.out, ← HN.out] at h1
              exact DepM.Cp.done h1⟩
            have hyl := box HR.out.1.len
            have hiN2 : i < N := by omega
            have hcl : ∀ ty, (Builtin.clear_ #[102] ty #[.slice (some ⟨b0, i * 3, none⟩) (N - i) (cap - i)]).run Try.prog wr = .ok (.tuple #[]) (wr.setCells b0 (i * 3) (Builtin.zeroCells #[.int .i64 0, .int .i64 0, .int .i64 0] (N - i)).toList) := fun ty =>
              run_clear_many wr 102 106 ty (.agg #[.int .i64 0, .int .i64 0, .int .i64 0]) Try.underlying102 Try.zeroDep (by simp [Value.cells, Value.oneCell']) (by decide) b0 (i * 3) (N - i) (cap - i)
                (fun t ht => by
                  have ht2 : t < (N - i) * 3 := ht
                  rw [HR.out.2.1.cellAt (i * 3 + t) (by omega), List.getElem?_eq_getElem (by rw [dpVals_len, hyl.out, HN.out]; omega)]; rfl)
                (fun t _ => HR.out.2.1.frozenAt (i * 3 + t))
            obtain ⟨zs, k1, k2⟩ := setCells_ownG (Builtin.zeroCells #[.int .i64 0, .int .i64 0, .int .i64 0] (N - i)).toList (i * 3) N wr _ HR.out.2.1
            have HCut : Box ((wr.setCells b0 (i * 3) (Builtin.zeroCells #[.int .i64 0, .int .i64 0, .int .i64 0] (N - i)).toList).ownsRow base 106 3 (.slice (some ⟨b0, 0, none⟩) i cap) i (dpVals (DepM.compact l))) := ⟨by
              have h1 := own_cutG k1 (i := i) (by omega)
              rw [k2, dpVals_take, HDn.out.2] at h1
              exact h1⟩
            have HSe : Box (w.heap.size ≤ (wr.setCells b0 (i * 3) (Builtin.zeroCells #[.int .i64 0, .int .i64 0, .int .i64 0] (N - i)).toList).heap.size) := ⟨by
              have h1 : ∀ (vs : List Value) (o : Nat) (W : World), (W.setCells b0 o vs).heap.size = W.heap.size := by
                intro vs
                induction vs with
                | nil => intro o W; rfl
                | cons u r ih => intro o W; rw [World.setCells, ih]; simp
              rw [h1]; exact HR.out.2.2.1⟩
            have HBe : Box (base ≤ w.heap.size → Below base w (wr.setCells b0 (i * 3) (Builtin.zeroCells #[.int .i64 0, .int .i64 0, .int .i64 0] (N - i)).toList)) := ⟨fun h => by
              have h1 : ∀ (vs : List Value) (o : Nat) (W : World), Below base w W → Below base w (W.setCells b0 o vs) := by
                intro vs
                induction vs with
                | nil => intro o W hb; exact hb
                | cons u r ih => intro o W hb; rw [World.setCells]; exact ih _ _ (hb.setCell (by simpa using hg1) _)
              exact h1 _ _ _ (HR.out.2.2.2 h)⟩
            generalize wr.setCells b0 (i * 3) (Builtin.zeroCells #[.int .i64 0, .int .i64 0, .int .i64 0] (N - i)).toList = We at *
            have hiN : (i : Int) ≤ (N : Int) := by omega
            have hiC : (i : Int) ≤ (cap : Int) := by omega
            have hjN4 := box hjN
            clear k1 k2 hjN hjt
            go_wp2_with fail
            refine HPost.out _ _ ?_ HSe.out HBe.out
            rw [← HDn.out.1]; exact HCut.out
    · obtain rfl : k = N := by omega
      have HE : Box (DepM.compact l = l) := ⟨HNeg.out k rfl HAll.out⟩
      have HO1 := box (ownsRow_ext HO.out HB.out.2)
      go_wp2_with fail
      refine HPost.out _ _ ?_ HB.out.1.size (fun h => HB.out.1.mono h)
      rw [HE.out, HN.out]; exact HO1.out
end Go.Proofs.Ytgkclgmekbgjmaa
