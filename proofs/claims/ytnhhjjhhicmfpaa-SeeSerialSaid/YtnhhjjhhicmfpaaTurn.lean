/- R.Own, inTurn, lastWriter: what they compute. -/
import Derived.Test.YtnhhjjhhicmfpaaSlOps
import Derived.Deep.MidRow
import Derived.Deep.DeepMust
namespace Go.Proofs.Ytnhhjjhhicmfpaa
open Go.RowKit Go.Lib

theorem Try.infoOpT : (Try.prog.info? 25).map (fun i => (i.zero, i.size, i.bytes)) = some (some (.agg #[.int .i64 0, .int .i64 0, .int .i64 0]), 3, 24) := by kernel_rfl

/-- A row of operations of the call's own is handed back. -/
def OpsM.Row (l : List OpM) (w : World) (e : Ending) (w' : World) : Prop :=
  ∃ v, e = .returned v ∧ w'.ownsRow w.heap.size 25 3 v l.length (opVals l) ∧ Below w.heap.size w w'
theorem OpsAt.fits {l : List OpM} (h : RunM.Fits l) (p : OpM → Bool) : (l.filter p).length ≤ 9000000000000 := Nat.le_trans (List.length_filter_le _ _) h.1

set_option maxRecDepth 20000 in
set_option maxHeartbeats 2000000 in
theorem own_any (l : List OpM) (t : Int) (ao : Option Addr) (cap : Nat) (w : World) (h : OpsAt w ao l) (hn : l.length ≤ 5000000000) :
    Calls Try.prog 44 #[.slice ao l.length cap, .int .i64 t] w (OpsM.Row (l.filter (fun o => o.tx == t)) w) := by
  obtain ⟨i0, hi0, hz0, hz1, hz2⟩ := info_parts Try.infoOpT
  have H := box h
  clear h
  go_enter Try.func44, Try.ntmps44
  go_wp2_with fail
  go_loopw [5, 10] (fun t5 t10 wr => ∃ k : Nat, k ≤ l.length ∧ t10 = .int .i64 (k : Int) ∧ wr.ownsRow w.heap.size 25 3 t5 ((l.take k).filter (fun o => o.tx == t)).length (opVals ((l.take k).filter (fun o => o.tx == t))) ∧ Box (Below w.heap.size w wr)) (fun _ t10 _ => l.length - (intOf t10).toNat)
  case atStart => exact ⟨0, Nat.zero_le _, rfl, World.ownsRow_nil _ _ _ _, ⟨Below.refl _ _⟩⟩
  case round =>
    obtain ⟨k, hk, rfl, hown, Hb⟩ := hrel
    by_cases hlt : k < l.length
    · obtain ⟨b, off, rfl, hb, hrow⟩ := ((H.out.below Hb.out (Nat.le_refl _)).resolve_left (by intro h; rw [h] at hlt; simp at hlt))
      obtain ⟨hc0, hc1, hc2⟩ := hrow k hlt
      have Hown := box hown
      have hlen : ((l.take k).filter (fun o => o.tx == t)).length ≤ k := by
        have h1 := List.length_filter_le (fun o : OpM => o.tx == t) (l.take k)
        have h2 := List.length_take_le k l
        omega
      have HT : Box ((l.take (k + 1)).filter (fun o => o.tx == t) = (l.take k).filter (fun o => o.tx == t) ++ (if (l[k].tx == t) = true then [l[k]] else [])) := ⟨by
        rw [List.take_succ_eq_append_getElem hlt, List.filter_append]
        congr 1
        cases h : (l[k].tx == t) <;> simp [h]⟩
      have hbs := Hb.out.size
      generalize l[k] = o at *
      obtain ⟨a0, a1, a2⟩ := o
      simp only at hc0 hc1 hc2 HT
      generalize (l.take k).filter (fun o => o.tx == t) = ms at *
      clear hrow
      cases e0 : (a0 == t) with
      | false =>
        have HE := box e0
        clear hown
        go_wp2_with fail
        go_roundw
        case rel =>
          refine ⟨k + 1, hlt, by go_num, ?_, ⟨Hb.out.alloc hbs _⟩⟩
          rw [HT.out, if_neg (by rw [HE.out]; simp), List.append_nil]
          exact Hown.out.alloc _
        case measure => simp [intOf]; omega
      | true =>
        have HE := box e0
        have hown2 := (hown.alloc (.cells #[.int .i64 a0, .int .i64 a1, .int .i64 a2] 25)).alloc (.cells #[.int .i64 a0, .int .i64 a1, .int .i64 a2] 25)
        clear hown
        go_wp2_with (at_builtin; go_must (refine wpList_append_own _ rfl _ _ 22 rfl w.heap.size 25 i0 _ 3 24 Try.underlying22 hi0 hz0 hz1 hz2 rfl (by decide) _ _ _ rfl hown2 ⟨wr.heap.size + 1, 0, none⟩ 1 1 [.int .i64 a0, .int .i64 a1, .int .i64 a2] rfl rfl (by have h := cells_new (wr.alloc (.cells #[.int .i64 a0, .int .i64 a1, .int .i64 a2] 25)) [.int .i64 a0, .int .i64 a1, .int .i64 a2] 25; rw [World.size_alloc] at h; exact h) (by simp [Value.oneCell']) (by unfold maxLen; omega) (by omega) (by simp; omega) ?_))
        intro v' w2 hown3 hgrow _
        have hB2 : Below w.heap.size w w2 := ((Hb.out.alloc hbs _).alloc (by rw [World.size_alloc]; omega) _).grown hgrow (by simp; omega) (fun b hb => (Hown.out.lt b hb).1)
        have HB2 := box hB2; have HO := box hown3
        clear hown3 hgrow hown2 hB2
        go_wp2_with fail
        go_roundw
        case rel =>
          refine ⟨k + 1, hlt, by go_num, ?_, HB2⟩
          rw [HT.out, if_pos HE.out, opVals_append, List.length_append]
          exact HO.out
        case measure => simp [intOf]; omega
    · have Hown := box hown
      have HE : Box (l.take k = l) := ⟨List.take_of_length_le (by omega)⟩
      rw [HE.out] at Hown
      clear hown
      go_wp2_with fail
      go_ret
      exact ⟨_, rfl, Hown.out, Hb.out⟩

set_option maxRecDepth 20000 in
set_option maxHeartbeats 2000000 in
theorem inTurn_any (l : List OpM) (ts : List Int) (ao bo : Option Addr) (cap cap' : Nat) (w : World) (h : OpsAt w ao l) (h' : IntsAt w bo ts) (hn : l.length ≤ 200) (ht : ts.length ≤ 100) :
    Calls Try.prog 15 #[.slice ao l.length cap, .slice bo ts.length cap'] w (OpsM.Row (StampM.inTurn l ts) w) := by
  obtain ⟨i0, hi0, hz0, hz1, hz2⟩ := info_parts Try.infoOpT
  have H := box h; have H' := box h'
  clear h h'
  go_enter Try.func15, Try.ntmps15
  go_wp2_with fail
  go_loopw [5, 10] (fun t5 t10 wr => ∃ k : Nat, k ≤ ts.length ∧ t10 = .int .i64 (k : Int) ∧ wr.ownsRow w.heap.size 25 3 t5 (StampM.inTurn l (ts.take k)).length (opVals (StampM.inTurn l (ts.take k))) ∧ Box (Below w.heap.size w wr)) (fun _ t10 _ => ts.length - (intOf t10).toNat)
  case atStart => exact ⟨0, Nat.zero_le _, rfl, World.ownsRow_nil _ _ _ _, ⟨Below.refl _ _⟩⟩
  case round =>
    obtain ⟨k, hk, rfl, hown, Hb⟩ := hrel
    by_cases hlt : k < ts.length
    · obtain ⟨b, off, rfl, hb, hrow⟩ := ((H'.out.below Hb.out (Nat.le_refl _)).resolve_left (by intro h; rw [h] at hlt; simp at hlt))
      have hc := hrow k hlt
      have Hown := box hown
      have hlen := StampM.inTurn_len l (ts.take k)
      have hlen2 : (StampM.inTurn l (ts.take k)).length ≤ 20000 := by
        have h2 := List.length_take_le k ts
        have : (ts.take k).length * l.length ≤ 100 * 200 := Nat.mul_le_mul (by omega) hn
        omega
      have HT : Box (StampM.inTurn l (ts.take (k + 1)) = StampM.inTurn l (ts.take k) ++ l.filter (fun o => o.tx == ts[k])) := ⟨by
        rw [List.take_succ_eq_append_getElem hlt, StampM.inTurn, List.flatMap_append]; simp [StampM.inTurn]⟩
      have hbs := Hb.out.size
      have HC := box (own_any l ts[k] ao cap wr (H.out.below Hb.out (Nat.le_refl _)) (by omega))
      have hfl : (l.filter (fun o => o.tx == ts[k])).length ≤ 200 := Nat.le_trans (List.length_filter_le _ _) hn
      generalize ts[k] = t at *
      generalize StampM.inTurn l (ts.take k) = ms at *
      generalize l.filter (fun o => o.tx == t) = fs at *
      clear hrow hown hlen
      go_wp2_with fail
      refine HC.out.mono ?_
      rintro e w1 ⟨v1, rfl, hown1, hb1⟩
      have hownA := ownsRow_below Hown.out hb1
      have HB1 : Box (Below w.heap.size w w1) := ⟨Hb.out.trans (hb1.mono hbs)⟩
      have hbs1 := HB1.out.size
      obtain ⟨ao1, cap1, rfl, _, hat1, hnil1, _⟩ := OpsAt.own hown1
      cases ao1 with
      | none =>
        obtain rfl := hnil1 rfl
        have hfs : fs = [] := hat1.resolve_right (by rintro ⟨b, off, h, _⟩; simp at h)
        subst hfs
        have HO := box hownA
        clear hb1 hown1 hat1 hnil1
        go_wp2_with (at_builtin; go_must (refine wpList_append_own_none rfl _ _ 22 rfl w.heap.size 25 i0 3 Try.underlying22 hi0 _ _ _ rfl hownA rfl ?_))
        clear hownA
        go_wp2_with fail
        go_roundw
        case rel =>
          refine ⟨k + 1, hlt, by go_num, ?_, HB1⟩
          rw [HT.out, List.append_nil]
          exact HO.out
        case measure => simp [intOf]; omega
      | some ad =>
        have hcs : ∀ j u, (opVals fs)[j]? = some u → w1.cell? (ad.add j) = some u := by
          rcases hown1.2 with ⟨h1, _⟩ | ⟨g, cap2, cur, h1, _⟩
          · simp at h1
          · simp only [Value.slice.injEq, Option.some.injEq] at h1
            rw [h1.1]
            exact hown1.cells (by rw [h1.1]; rfl)
        have hav := box Hown.out.lt
        have Hcs := box hcs
        clear hb1 hown1 hat1 hnil1 hcs
        go_wp2_with (at_builtin; go_must (refine wpList_append_own _ rfl _ _ 22 rfl w.heap.size 25 i0 _ 3 24 Try.underlying22 hi0 hz0 hz1 hz2 rfl (by decide) _ _ _ rfl hownA ad fs.length cap1 (opVals fs) rfl (opVals_len fs) Hcs.out (opVals_one' fs) (by unfold maxLen; omega) (by omega) (by omega) ?_))
        intro v' w2 hown3 hgrow _
        have hB2 : Below w.heap.size w w2 := HB1.out.grown hgrow hbs1 (fun b hb => (hav.out b hb).1)
        have HB2 := box hB2; have HO := box hown3
        clear hown3 hgrow hownA hB2
        go_wp2_with fail
        go_roundw
        case rel =>
          refine ⟨k + 1, hlt, by go_num, ?_, HB2⟩
          rw [HT.out, opVals_append, List.length_append]
          exact HO.out
        case measure => simp [intOf]; omega
    · have Hown := box hown
      have HE : Box (ts.take k = ts) := ⟨List.take_of_length_le (by omega)⟩
      rw [HE.out] at Hown
      clear hown
      go_wp2_with fail
      go_ret
      exact ⟨_, rfl, Hown.out, Hb.out⟩
end Go.Proofs.Ytnhhjjhhicmfpaa
