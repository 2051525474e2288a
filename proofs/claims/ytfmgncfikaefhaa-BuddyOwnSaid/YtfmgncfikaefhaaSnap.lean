/- snap.Play: what it computes. -/
import Derived.Test.YtfmgncfikaefhaaSnapW2
import Derived.Test.YtfmgncfikaefhaaIntIdx
import Derived.Deep.AppendLies
namespace Go.Proofs.Ytfmgncfikaefhaa
open Go.RowKit Go.Lib

set_option maxRecDepth 20000 in
set_option maxHeartbeats 2000000 in
theorem newest_any {w wa : World} {N : Nat} {st : SnSt} {vw vv : Nat → Value} (h : SnapM.SW w N st vw vv wa) (it : Nat) (hit : it < 20) (f : Int) (hn : (st.vs it).length ≤ 9000000000) :
    Calls Try.prog 65 #[.pointer (some ⟨N, 0, none⟩), .int .i64 (it : Int), .int .i64 f] wa fun e w' => e = .returned (.int .i64 (SnapM.newest (st.vs it) f)) ∧ Below wa.heap.size wa w' := by
  obtain ⟨ao, cap, hv, hel, hcap, hnil⟩ := verRow_at (h.fv.own it hit)
  have hc := h.cell (i := 37 + it) (by omega)
  rw [SnapM.cell_vs, hv] at hc
  have Hel := box hel
  clear hel hv h
  go_enter Try.func65, Try.ntmps65
  go_wp2_with fail
  go_loopw [7, 17] (fun t7 t17 wr => ∃ k : Nat, k ≤ (st.vs it).length ∧ t17 = .int .i64 (k : Int) ∧ t7 = .int .i64 (SnapM.newest ((st.vs it).take k) f) ∧ Box (Below wa.heap.size wa wr)) (fun _ t17 _ => (st.vs it).length - (intOf t17).toNat)
  case atStart => exact ⟨0, Nat.zero_le _, rfl, rfl, ⟨Below.refl _ _⟩⟩
  case round =>
    obtain ⟨k, hk, rfl, rfl, Hb⟩ := hrel
    by_cases hlt : k < (st.vs it).length
    · obtain ⟨g, rfl, hg, d0, d1⟩ := Hel.out k hlt
      have c0 : wr.cell? ⟨g, k * 2, none⟩ = some (.int .i64 (st.vs it)[k].by_) := (Hb.out.cell (p := ⟨g, k * 2, none⟩) hg).trans d0
      have c1 : wr.cell? ⟨g, k * 2 + 1, none⟩ = some (.int .i64 (st.vs it)[k].at_) := (Hb.out.cell (p := ⟨g, k * 2 + 1, none⟩) hg).trans d1
      have HT : Box (SnapM.newest ((st.vs it).take (k + 1)) f = if (st.vs it)[k].at_ ≤ f then (st.vs it)[k].by_ else SnapM.newest ((st.vs it).take k) f) := ⟨by
        rw [List.take_succ_eq_append_getElem hlt, SnapM.newest, List.foldl_append]; rfl⟩
      have hbs := Hb.out.size
      clear d0 d1
      generalize (st.vs it)[k] = v at *
      obtain ⟨vb, va⟩ := v
      simp only at c0 c1 HT
      generalize SnapM.newest ((st.vs it).take k) f = r at *
      by_cases hle : va ≤ f
      · have q : decide (va ≤ f) = true := decide_eq_true hle
        rw [if_pos hle] at HT
        clear hle
        go_wp2_with fail
        go_roundw
        case rel => exact ⟨k + 1, hlt, by go_num, by rw [HT.out], ⟨Hb.out.alloc hbs _⟩⟩
        case measure => simp [intOf]; omega
      · have q : decide (va ≤ f) = false := decide_eq_false hle
        rw [if_neg hle] at HT
        clear hle
        go_wp2_with fail
        go_roundw
        case rel => exact ⟨k + 1, hlt, by go_num, by rw [HT.out], ⟨Hb.out.alloc hbs _⟩⟩
        case measure => simp [intOf]; omega
    · have HE : Box ((st.vs it).take k = st.vs it) := ⟨List.take_of_length_le (by omega)⟩
      go_wp2_with fail
      go_ret
      exact ⟨by rw [HE.out]; rfl, Hb.out⟩
end Go.Proofs.Ytfmgncfikaefhaa
