/- ofCommitted: what it computes. -/
import Derived.Test.YtnhhjjhhicmfpaaSlOps2
import Derived.Test.YtnhhjjhhicmfpaaTurn
import Derived.Test.YtnhhjjhhicmfpaaOp
import Derived.Test.YtnhhjjhhicmfpaaTurnM
namespace Go.Proofs.Ytnhhjjhhicmfpaa
open Go.RowKit Go.Lib

set_option maxRecDepth 20000 in
set_option maxHeartbeats 4000000 in
theorem ofCom_any (l : List OpM) (ao : Option Addr) (cap : Nat) (w : World) (h : OpsAt w ao l) (hn : l.length * 24 ≤ 140737488355328) :
    Calls Try.prog 13 #[.slice ao l.length cap] w (OpsM.Row (RunM.ofCom l) w) := by
  obtain ⟨i0, hi0, hz0, hz1, hz2⟩ := info_parts Try.infoOpT
  have H := box h
  have HCn := box (fun (v : OpM) W (hb : Below w.heap.size w W) => contains_ops l v ao cap W (h.below hb (Nat.le_refl _)) (by omega))
  clear h
  obtain ⟨q, Hq⟩ : ∃ q : OpM → Bool, Box (∀ o : OpM, decide ((⟨o.tx, 3, 0⟩ : OpM) ∈ l) = q o) := ⟨_, ⟨fun _ => rfl⟩⟩
  have HD : Box (RunM.ofCom l = l.filter q) := ⟨by unfold RunM.ofCom; congr 1; funext o; exact Hq.out o⟩
  rw [HD.out]
  clear HD
  go_enter Try.func13, Try.ntmps13
  go_wp2_with fail
  go_loopw [3, 8] (fun t3 t8 wr => ∃ (k : Nat) (v3 : Value), k ≤ l.length ∧ v3 = t3 ∧ t8 = .int .i64 (k : Int) ∧ wr.ownsRow w.heap.size 25 3 v3 ((l.take k).filter q).length (opVals ((l.take k).filter q)) ∧ Box (Below w.heap.size w wr)) (fun _ t8 _ => l.length - (intOf t8).toNat)
  case atStart => exact ⟨0, _, Nat.zero_le _, rfl, rfl, World.ownsRow_nil _ _ _ _, ⟨Below.refl _ _⟩⟩
  case round =>
    obtain ⟨k, v3, hk, rfl, rfl, hown, Hb⟩ := hrel
    by_cases hlt : k < l.length
    · obtain ⟨b, off, rfl, hb, hrow⟩ := ((H.out.below Hb.out (Nat.le_refl _)).resolve_left (by intro h; rw [h] at hlt; simp at hlt))
      obtain ⟨hc0, hc1, hc2⟩ := hrow k hlt
      have Hown := box hown
      have hlen : ((l.take k).filter q).length ≤ k := by
        have h1 := List.length_filter_le q (l.take k)
        have h2 := List.length_take_le k l
        omega
      have HT : Box ((l.take (k + 1)).filter q = (l.take k).filter q ++ (if q l[k] = true then [l[k]] else [])) := ⟨by
        rw [List.take_succ_eq_append_getElem hlt, List.filter_append]
        congr 1
        cases h : q l[k] <;> simp [h]⟩
      have hbs := Hb.out.size
      have HQ := box (Hq.out l[k])
      generalize l[k] = o at *
      obtain ⟨a0, a1, a2⟩ := o
      simp only at hc0 hc1 hc2
      generalize (l.take k).filter q = ms at *
      clear hrow hown
      go_upto_region 5 with (fail)
      refine name_world (fun W => Below w.heap.size w W ∧ Blk W wr.heap.size 25 [.int .i64 a0, .int .i64 a1, .int .i64 a2] ∧ W.ownsRow w.heap.size 25 3 v3 ms.length (opVals ms)) ⟨Hb.out.alloc hbs _, Blk.new _ _ _, Hown.out.alloc _⟩ ?_
      rintro W ⟨hw1, hk1, ho1⟩
      have HW1 := box hw1; have HK1 := box hk1; have HO1 := box ho1
      have c0 := hk1.cell (i := 0) rfl
      clear hw1 hk1 ho1 hc0 hc1 hc2 Hown
      generalize wr.heap.size = A at *
      go_wp2_with fail
      refine (op_any _ _ _ _).mono ?_
      rintro e w1 ⟨rfl, hb1⟩
      have HB1 := box (below_tr HW1.out hb1)
      have HK2 := box (HK1.out.after hb1)
      have HO2 := box (ownsRow_below HO1.out hb1)
      clear hb1
      go_wp2_with fail
      refine (HCn.out ⟨a0, 3, 0⟩ w1 HB1.out).mono ?_
      rintro e w2 ⟨rfl, hb2⟩
      have HB2 := box (below_tr HB1.out hb2)
      have HK3 := box (HK2.out.after hb2)
      have HO3 := box (ownsRow_below HO2.out hb2)
      clear hb2 c0
      rw [show decide ((⟨a0, 3, 0⟩ : OpM) ∈ l) = q ⟨a0, a1, a2⟩ from HQ.out]
      obtain ⟨p, Hp⟩ : ∃ p, Box (q ⟨a0, a1, a2⟩ = p) := ⟨_, ⟨rfl⟩⟩
      rw [Hp.out]
      cases p with
      | false =>
        go_wp2_with fail
        go_roundw
        case rel =>
          refine ⟨k + 1, _, hlt, rfl, by go_num, ?_, HB2⟩
          rw [HT.out, if_neg (by rw [Hp.out]; simp), List.append_nil]
          exact HO3.out
        case measure => simp [intOf]; omega
      | true =>
        have c0 := HK3.out.cell (i := 0) rfl
        have c1 := HK3.out.cell (i := 1) rfl
        have c2 := HK3.out.cell (i := 2) rfl
        have hbs2 := HB2.out.size
        have hown2 := (HO3.out).alloc (.cells #[.int .i64 a0, .int .i64 a1, .int .i64 a2] 25)
        go_wp2_with (at_builtin; go_must (refine wpList_append_own _ rfl _ _ 22 rfl w.heap.size 25 i0 _ 3 24 Try.underlying22 hi0 hz0 hz1 hz2 rfl (by decide) _ _ _ rfl hown2 ⟨w2.heap.size, 0, none⟩ 1 1 [.int .i64 a0, .int .i64 a1, .int .i64 a2] rfl rfl (cells_new w2 [.int .i64 a0, .int .i64 a1, .int .i64 a2] 25) (by simp [Value.oneCell']) (by unfold maxLen; omega) (by omega) (by simp; omega) ?_))
        intro v' w3 hown3 hgrow _
        have hB3 : Below w.heap.size w w3 := (HB2.out.alloc hbs2 _).grown hgrow (by simp; omega) (fun b hb => (HO3.out.lt b hb).1)
        have HB3 := box hB3; have HO := box hown3
        clear hown3 hgrow hown2 hB3
        go_wp2_with fail
        go_roundw
        case rel =>
          refine ⟨k + 1, _, hlt, rfl, by go_num, ?_, HB3⟩
          rw [HT.out, if_pos Hp.out, opVals_append, List.length_append]
          exact HO.out
        case measure => simp [intOf]; omega
    · have Hown := box hown
      have HE : Box (l.take k = l) := ⟨List.take_of_length_le (by omega)⟩
      rw [HE.out] at Hown
      clear hown
      go_wp2_with fail
      go_ret
      exact ⟨_, rfl, Hown.out, Hb.out⟩
end Go.Proofs.Ytnhhjjhhicmfpaa
