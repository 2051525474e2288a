/- R.Own: what it computes. -/
import Derived.Test.YtnnkejolfhhmlaaOpsRow
import Derived.Deep.MidRow
import Derived.Deep.DeepMust
namespace Go.Proofs.Ytnnkejolfhhmlaa
open Go.RowKit Go.Lib

theorem Try.infoOpT : (Try.prog.info? 30).map (fun i => (i.zero, i.size, i.bytes)) = some (some (.agg #[.int .i64 0, .int .i64 0, .int .i64 0]), 3, 24) := by kernel_rfl

/-- A row of operations of the call's own is handed back. -/
def OpsM.Row (l : List OpM) (w : World) (e : Ending) (w' : World) : Prop :=
  ∃ v, e = .returned v ∧ w'.ownsRow w.heap.size 30 3 v l.length (opVals l) ∧ Below w.heap.size w w'
theorem OpsAt.fits {l : List OpM} (h : RunM.Fits l) (p : OpM → Bool) : (l.filter p).length ≤ 9000000000000 := Nat.le_trans (List.length_filter_le _ _) h.1

set_option maxRecDepth 20000 in
set_option maxHeartbeats 2000000 in
theorem own_any (l : List OpM) (t : Int) (ao : Option Addr) (cap : Nat) (w : World) (h : OpsAt w ao l) (hn : l.length ≤ 5000000000) :
    Calls Try.prog 9 #[.slice ao l.length cap, .int .i64 t] w (OpsM.Row (l.filter (fun o => o.tx == t)) w) := by
  obtain ⟨i0, hi0, hz0, hz1, hz2⟩ := info_parts Try.infoOpT
  have H := box h
  clear h
  go_enter Try.func9, Try.ntmps9
  go_wp2_with fail
  go_loopw [5, 10] (fun t5 t10 wr => ∃ k : Nat, k ≤ l.length ∧ t10 = .int .i64 (k : Int) ∧ wr.ownsRow w.heap.size 30 3 t5 ((l.take k).filter (fun o => o.tx == t)).length (opVals ((l.take k).filter (fun o => o.tx == t))) ∧ Box (Below w.heap.size w wr)) (fun _ t10 _ => l.length - (intOf t10).toNat)
  case atStart => exact ⟨0, Nat.zero_le _, rfl, World.ownsRow_nil _ _ _ _, ⟨Below.refl _ _⟩⟩
  case round =>
    obtain ⟨k, hk, rfl, hown, Hb⟩ := hrel
    by_cases hlt : k < l.length
    · obtain ⟨b, off, rfl, hb, hrow⟩ := ((H.out.below Hb.out (Nat.le_refl _)).resolve_left (by intro h; rw [h] at hlt; simp at hlt))
      obtain ⟨hc0, hc1, hc2⟩ := hrow k hlt
      have Hown := box hown
      have hlen : ((l.take k).filter (fun o => o.tx == t)).length ≤ k := by
        have h1 := List.length_filter_le (fun o : OpM => o.tx == t) (l.take k)
        have h2 := List.length_take_le k l
        omega
      have HT : Box ((l.take (k + 1)).filter (fun o => o.tx == t) = (l.take k).filter (fun o => o.tx == t) ++ (if (l[k].tx == t) = true then [l[k]] else [])) := ⟨by
        rw [List.take_succ_eq_append_getElem hlt, List.filter_append]
        congr 1
        cases h : (l[k].tx == t) <;> simp [h]⟩
      have hbs := Hb.out.size
      generalize l[k] = o at *
      obtain ⟨a0, a1, a2⟩ := o
      simp only at hc0 hc1 hc2 HT
      generalize (l.take k).filter (fun o => o.tx == t) = ms at *
      clear hrow
      cases e0 : (a0 == t) with
      | false =>
        have HE := box e0
        clear hown
        go_wp2_with fail
        go_roundw
        case rel =>
          refine ⟨k + 1, hlt, by go_num, ?_, ⟨Hb.out.alloc hbs _⟩⟩
          rw [HT.out, if_neg (by rw [HE.out]; simp), List.append_nil]
          exact Hown.out.alloc _
        case measure => simp [intOf]; omega
      | true =>
        have HE := box e0
        have hown2 := (hown.alloc (.cells #[.int .i64 a0, .int .i64 a1, .int .i64 a2] 30)).alloc (.cells #[.int .i64 a0, .int .i64 a1, .int .i64 a2] 30)
        clear hown
        go_wp2_with (at_builtin; go_must (refine wpList_append_own _ rfl _ _ 22 rfl w.heap.size 30 i0 _ 3 24 Try.underlying22 hi0 hz0 hz1 hz2 rfl (by decide) _ _ _ rfl hown2 ⟨wr.heap.size + 1, 0, none⟩ 1 1 [.int .i64 a0, .int .i64 a1, .int .i64 a2] rfl rfl (by have h := cells_new (wr.alloc (.cells #[.int .i64 a0, .int .i64 a1, .int .i64 a2] 30)) [.int .i64 a0, .int .i64 a1, .int .i64 a2] 30; rw [World.size_alloc] at h; exact h) (by simp [Value.oneCell']) (by unfold maxLen; omega) (by omega) (by simp; omega) ?_))
        intro v' w2 hown3 hgrow _
        have hB2 : Below w.heap.size w w2 := ((Hb.out.alloc hbs _).alloc (by rw [World.size_alloc]; omega) _).grown hgrow (by simp; omega) (fun b hb => (Hown.out.lt b hb).1)
        have HB2 := box hB2; have HO := box hown3
        clear hown3 hgrow hown2 hB2
        go_wp2_with fail
        go_roundw
        case rel =>
          refine ⟨k + 1, hlt, by go_num, ?_, HB2⟩
          rw [HT.out, if_pos HE.out, opVals_append, List.length_append]
          exact HO.out
        case measure => simp [intOf]; omega
    · have Hown := box hown
      have HE : Box (l.take k = l) := ⟨List.take_of_length_le (by omega)⟩
      rw [HE.out] at Hown
      clear hown
      go_wp2_with fail
      go_ret
      exact ⟨_, rfl, Hown.out, Hb.out⟩

end Go.Proofs.Ytnnkejolfhhmlaa
