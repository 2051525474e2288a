/- PoolBest is proved for every input: no condition stands ahead of it. -/
import Derived.Test.YtnolidjjeknmmaaLawKit
import Derived.Test.YtnolidjjeknmmaaNumOpen
import Derived.Test.YtnolidjjeknmmaaPoolHits
import Derived.Test.YtnolidjjeknmmaaIntEq
namespace Go.Proofs.Ytnolidjjeknmmaa
open Go.RowKit Go.Lib

def BestX (w : World) (e : Ending) (w' : World) : Prop := ∃ ho hc ko kc, e = .returned (.tuple #[.slice ho 4 hc, .slice ko 2 kc, .int .i64 0]) ∧ BoolsAt w' ho [false, false, false, true] ∧ IntsAt w' ko [1, 3] ∧ Below w.heap.size w w'
theorem best_x (w : World) (ao : Option Addr) (h : IntsAt w ao [1, 2, 3, 1]) : Calls Try.prog 45 #[.int .i64 2, .slice ao 4 4] w (BestX w) := by
  refine (best_any 2 [1, 2, 3, 1] ao 4 w h (by simp)).mono ?_
  intro e w' hp
  obtain ⟨ho, hc, ko, kc, h1, h2, _, h3, _, h4⟩ := (show GotOk 4 [false, false, false, true] [1, 3] w e w' from hp.ok (by decide))
  exact ⟨ho, hc, ko, kc, h1, h2, h3, h4⟩

set_option maxRecDepth 20000 in
set_option maxHeartbeats 8000000 in
theorem poolBest_calls (size : Int) (refs : List Int) (ao : Option Addr) (cap : Nat) (w : World) (h : IntsAt w ao refs) (hcap : refs.length ≤ cap) :
    Calls Try.prog 11 #[.int .i64 size, .slice ao refs.length cap] w fun e w' => e = .returned (.bool true) ∧ Below w.heap.size w w' := by
  have HX := box (fun w ao h => best_x w ao h)
  have HCb := box (fun W (hb : Below w.heap.size w W) => best_any size refs ao cap W (h.below hb (Nat.le_refl _)) hcap)
  have HCf := box (fun W (hb : Below w.heap.size w W) => fifo_any size refs ao cap W (h.below hb (Nat.le_refl _)))
  have HCl := box (fun W (hb : Below w.heap.size w W) => lru_any size refs ao cap W (h.below hb (Nat.le_refl _)))
  have HCc := box (fun W (hb : Below w.heap.size w W) => clock_any size refs ao cap W (h.below hb (Nat.le_refl _)))
  clear h hcap
  go_enter Try.func11, Try.ntmps11
  go_wp2_with fail
  refine (HX.out _ (some ⟨w.heap.size, 0, none⟩) (Or.inr ⟨w.heap.size, 0, rfl, by simp, fun k hk => by
    rw [Nat.zero_add]
    exact (Blk.new w (intVals [1, 2, 3, 1]) 3).cell (intVals_get hk)⟩)).mono ?_
  rintro e w1 ⟨ho, hc, ko, kc, rfl, hbo, hat, hb1⟩
  have HB1 := box (((Below.refl _ _).alloc (Nat.le_refl _) _).trans (hb1.mono (by simp)))
  have HBo := box hbo; have HAt := box hat
  clear hbo hat hb1
  go_wp2_with fail
  refine (hits_any [false, false, false, true] ho hc w1 HBo.out (by simp)).mono ?_
  rintro e w2 ⟨rfl, rfl⟩
  rw [show [false, false, false, true].count true = 1 from by decide]
  go_wp2_with fail
  refine (equalInts_same [1, 3] ko (some ⟨w1.heap.size, 0, none⟩) kc 2 _ (HAt.out.below ((Below.refl _ _).alloc (Nat.le_refl _) _) (Nat.le_refl _)) (Or.inr ⟨w1.heap.size, 0, rfl, by simp, fun k hk => by
    rw [Nat.zero_add]
    exact (Blk.new w1 (intVals [1, 3]) 3).cell (intVals_get hk)⟩) (by simp)).mono ?_
  rintro e w3 ⟨rfl, n2, rfl⟩
  have HB3 : Box (Below w.heap.size w ((w1.alloc (.cells #[.int .i64 1, .int .i64 3] 3)).drewN n2)) := ⟨(HB1.out.alloc HB1.out.size _).trans ⟨rfl, rfl, rfl, Nat.le_refl _, fun _ _ => rfl⟩⟩
  generalize (w1.alloc (.cells #[.int .i64 1, .int .i64 3] 3)).drewN n2 = W3 at *
  clear HAt HB1 HBo
  by_cases hchk : PoolM.check size refs.length = 0
  case neg =>
    have HB' := box (fun W hb => (HCb.out W hb).mono (fun e w' h => PoolPost.err hchk h))
    have HF' := box (fun W hb => (HCf.out W hb).mono (fun e w' h => PoolPost.err hchk h))
    have HL' := box (fun W hb => (HCl.out W hb).mono (fun e w' h => PoolPost.err hchk h))
    have HK' := box (fun W hb => (HCc.out W hb).mono (fun e w' h => ClkPost.err hchk h))
    obtain ⟨c, Hcc⟩ : ∃ c, Box (PoolM.check size refs.length = c) := ⟨_, ⟨rfl⟩⟩
    obtain ⟨N, HN⟩ : ∃ N, Box (refs.length = N) := ⟨_, ⟨rfl⟩⟩
    rw [Hcc.out] at HB' HF' HL' HK' hchk
    rw [HN.out] at HB' HF' HL' HK' ⊢
    have d0 : (c == 0) = false := by simpa using hchk
    have d1 : (c != 0) = true := by simpa using hchk
    have d2 : (c == c) = true := by simp
    clear hchk HCb HCf HCl HCc
    go_wp2_with fail
    refine (HB'.out _ HB3.out).mono ?_
    rintro e w4 ⟨rfl, hb4⟩
    have HB4 := box (below_tr HB3.out hb4)
    clear hb4
    go_wp2_with fail
    refine (HF'.out _ HB4.out).mono ?_
    rintro e w5 ⟨rfl, hb5⟩
    have HB5 := box (below_tr HB4.out hb5)
    clear hb5
    go_wp2_with fail
    refine (HL'.out _ HB5.out).mono ?_
    rintro e w6 ⟨rfl, hb6⟩
    have HB6 := box (below_tr HB5.out hb6)
    clear hb6
    go_wp2_with fail
    refine (HK'.out _ HB6.out).mono ?_
    rintro e w7 ⟨rfl, hb7⟩
    have HB7 := box (below_tr HB6.out hb7)
    clear hb7
    go_wp2_with fail
    go_ret
    exact ⟨rfl, HB7.out⟩
  obtain ⟨s, rfl, h1, h50, hn⟩ := PoolM.check_ok hchk
  have HB' := box (fun W hb => (HCb.out W hb).mono (fun e w' h => PoolPost.ok hchk h))
  have HF' := box (fun W hb => (HCf.out W hb).mono (fun e w' h => PoolPost.ok hchk h))
  have HL' := box (fun W hb => (HCl.out W hb).mono (fun e w' h => PoolPost.ok hchk h))
  have HK' := box (fun W hb => (HCc.out W hb).mono (fun e w' h => ClkPost.ok hchk h))
  have m1 := PoolM.best_most s h1 refs _ (PoolM.kept_sched PoolM.rule_fifo h1 (Nat.le_refl _) refs)
  have m2 := PoolM.best_most s h1 refs _ (PoolM.kept_sched PoolM.rule_lru h1 (Nat.le_refl _) refs)
  have m3 := PoolM.best_most s h1 refs _ (PoolM.clk_sched h1 refs)
  rw [← PoolM.cnt_hits] at m1 m2
  rw [← PoolM.cnt_clk] at m3
  simp only [Int.toNat_natCast] at HB' HF' HL' HK'
  generalize PoolM.hits (PoolM.farthest refs) PoolM.same s refs refs.length = xb at *
  generalize PoolM.hits PoolM.oldest PoolM.same s refs refs.length = xf at *
  generalize PoolM.hits PoolM.oldest PoolM.touch s refs refs.length = xl at *
  generalize PoolM.clkHits s refs refs.length = xc at *
  generalize PoolM.kept (PoolM.farthest refs) PoolM.same s refs refs.length = kb at *
  generalize PoolM.kept PoolM.oldest PoolM.same s refs refs.length = kf at *
  generalize PoolM.kept PoolM.oldest PoolM.touch s refs refs.length = kl at *
  generalize (PoolM.clkAt s refs refs.length).fr = kk at *
  obtain ⟨N, HN⟩ : ∃ N, Box (refs.length = N) := ⟨_, ⟨rfl⟩⟩
  rw [HN.out] at HB' HF' HL' HK' hn ⊢
  have M1 := box m1; have M2 := box m2; have M3 := box m3
  clear hchk HCb HCf HCl HCc m1 m2 m3
  go_wp2_with fail
  refine (HB'.out _ HB3.out).mono ?_
  rintro e w4 ⟨hob, hcb, kob, kcb, rfl, hx4, hl4, _, _, hb4⟩
  have HB4 := box (below_tr HB3.out hb4)
  have X4 := box hx4; have L4 := box hl4
  clear hb4 hx4 hl4
  go_wp2_with fail
  refine (HF'.out _ HB4.out).mono ?_
  rintro e w5 ⟨hof, hcf, kof, kcf, rfl, hx5, hl5, _, _, hb5⟩
  have HB5 := box (below_tr HB4.out hb5)
  have X4 := box (X4.out.below hb5 (Nat.le_refl _))
  have X5 := box hx5; have L5 := box hl5
  clear hb5 hx5 hl5
  go_wp2_with fail
  refine (HL'.out _ HB5.out).mono ?_
  rintro e w6 ⟨hol, hcl, kol, kcl, rfl, hx6, hl6, _, _, hb6⟩
  have HB6 := box (below_tr HB5.out hb6)
  have X4 := box (X4.out.below hb6 (Nat.le_refl _)); have X5 := box (X5.out.below hb6 (Nat.le_refl _))
  have X6 := box hx6; have L6 := box hl6
  clear hb6 hx6 hl6
  go_wp2_with fail
  refine (HK'.out _ HB6.out).mono ?_
  rintro e w7 ⟨hoc, hcc, koc, kcc, rfl, hx7, hl7, _, _, hb7⟩
  have HB7 := box (below_tr HB6.out hb7)
  have X4 := box (X4.out.below hb7 (Nat.le_refl _)); have X5 := box (X5.out.below hb7 (Nat.le_refl _)); have X6 := box (X6.out.below hb7 (Nat.le_refl _))
  have X7 := box hx7; have L7 := box hl7
  clear hb7 hx7 hl7
  have C4 := box (hits_any xb hob hcb w7 X4.out (by have := L4.out; omega))
  have C5 := box (hits_any xf hof hcf w7 X5.out (by have := L5.out; omega))
  have C6 := box (hits_any xl hol hcl w7 X6.out (by have := L6.out; omega))
  have C7 := box (hits_any xc hoc hcc w7 X7.out (by have := L7.out; omega))
  rw [L4.out] at C4
  rw [L5.out] at C5
  rw [L6.out] at C6
  rw [L7.out] at C7
  generalize xb.count true = a at *
  generalize xf.count true = b at *
  generalize xl.count true = c at *
  generalize xc.count true = d at *
  go_wp2_with fail
  refine C4.out.mono ?_
  rintro e w8 ⟨rfl, rfl⟩
  go_wp2_with fail
  refine C5.out.mono ?_
  rintro e w8 ⟨rfl, rfl⟩
  go_wp2_with fail
  refine C6.out.mono ?_
  rintro e w8 ⟨rfl, rfl⟩
  go_wp2_with fail
  refine C7.out.mono ?_
  rintro e w8 ⟨rfl, rfl⟩
  go_wp2_with fail
  all_goals
    have g1 := M1.out; have g2 := M2.out; have g3 := M3.out
    go_ret
    refine ⟨?_, HB7.out⟩
    show Ending.returned (Value.bool (decide _)) = _
    congr 2
    rw [decide_eq_true_eq]
    first | omega | (split <;> omega)
namespace lawPoolBest
open Go.ChangeShapes Go.WideShapes Go.ChangeAt Go.RowKit Go.ChangeMaps

set_option maxRecDepth 100000 in
theorem lifted (os : Os) (started : os.Started) (H : Type) (enc : TypeId × Value → H) :
    ReturnsInHanded {} Try.checked os 11 .any (Rows.poolBestSpec.pre6 enc Try.prog Try.f11 [] false) (Rows.poolBestSpec.post enc Try.prog Try.f11 false true false false) := by
  refine LawKit.law_lifted started (by kernel_rfl) Try.func11 rfl
    (fun ds h => by
      match ds, h with
      | [_, _], _ => rfl)
    rfl Try.underlying4 (by intro t ht; exact of_decide_eq_true (p := Try.prog.readableRec t = true ∧ t < Try.prog.types.size) (by revert t ht; decide +kernel))
    (ChangeSpec.witness6 (enc := enc) (C := Try.checked) false ⟨#[], #[.int .i64 0, .slice none 0 0], []⟩ 8 (by kernel_rfl) (by kernel_rfl) (by kernel_rfl) (by kernel_rfl)) ?_
  intro W base args ds ps hval hA hsz hlt hfz
  have hA' := hA
  rw [Try.params11] at hA hval
  obtain ⟨v0, vs0, d0, ds0, p0, q0, hargs, rfl, rfl, h0, r0⟩ := trodAll_cons hA
  obtain ⟨v1, vs1, d1, ds1, p1, q1, rfl, rfl, rfl, h1, r1⟩ := trodAll_cons r0
  obtain ⟨rfl, rfl, rfl⟩ := trodAll_nil r1
  obtain rfl : args = #[v0, v1] := by cases args; simp_all
  go_open 0 size
  obtain ⟨ao, cap, l, rfl, hnil, hat, hcap, hcap8, _⟩ := open_numbers (hval 1 _ _ rfl rfl) h1 (Open.weights_bound hsz (j := 1) (by rw [Try.params11]; rfl) rfl)
  refine (poolBest_calls size l ao cap W hat hcap).mono ?_
  rintro e W' ⟨rfl, hb⟩
  exact ⟨rfl, hb⟩

theorem proved : Rows.PoolBestSaid :=
  OpenClaim.holds_of_wide 11 Try.f11 rfl rfl rfl rfl rfl rfl rfl ⟨rfl, rfl, rfl, rfl, rfl⟩ rfl rfl rfl rfl rfl (by kernel_rfl) Try.func11 (by kernel_rfl)
    (of_decide_eq_true (by kernel_rfl)) (by unfold Func.isWrapper; first | (rw [if_pos (by decide +kernel)]; kernel_rfl) | (rw [if_neg (by decide +kernel)]; exact ⟨rfl, rfl⟩))
    (fun os started H enc _ => lifted os started H enc)
end lawPoolBest
end Go.Proofs.Ytnolidjjeknmmaa
