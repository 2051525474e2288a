/- WaitRule is proved for every input: no condition stands ahead of it. -/
import Derived.Test.YtnpiiggmdekfiaaLawKit
import Derived.Test.YtnpiiggmdekfiaaGrOW
import Derived.Test.YtnpiiggmdekfiaaWtRule
import Derived.Test.YtnpiiggmdekfiaaRest
import Derived.Test.YtnpiiggmdekfiaaEgOpen
import Derived.Deep.QuietTactic
import Derived.BigQuiet
namespace Go.Proofs.Ytnpiiggmdekfiaa
open Go.RowKit Go.Lib

/-- An edge that the law keeps. -/
def WaitM.fine (r : Int) (e : EgM) : Prop := 0 ≤ e.frm ∧ e.frm < 60 ∧ 0 ≤ e.to_ ∧ e.to_ < 60 ∧ if r = 1 then e.frm < e.to_ else e.to_ < e.frm
theorem WaitM.res_wait {r a b : Int} (h : WaitM.res r a b = (1, 0)) : if r = 1 then a < b else b < a := by
  unfold WaitM.res at h
  split at h
  · cases h
  · split at h
    · cases h
    · split at h
      · rename_i h3
        rw [if_pos h3]
        split at h
        · assumption
        · cases h
      · rename_i h3
        rw [if_neg h3]
        split at h
        · cases h
        · omega
theorem WaitM.res_cases (r a b : Int) : (∃ c : Int, WaitM.res r a b = (0, c) ∧ c ≠ 0) ∨ WaitM.res r a b = (1, 0) ∨ (WaitM.res r a b = (2, 0) ∧ ¬ a < b) ∨ (WaitM.res r a b = (3, 0) ∧ ¬ b < a) := by
  unfold WaitM.res
  split
  · exact Or.inl ⟨1, rfl, by decide⟩
  · split
    · exact Or.inl ⟨4, rfl, by decide⟩
    · split
      · split
        · exact Or.inr (Or.inl rfl)
        · exact Or.inr (Or.inr (Or.inl ⟨rfl, by assumption⟩))
      · split
        · exact Or.inr (Or.inr (Or.inr ⟨rfl, by omega⟩))
        · exact Or.inr (Or.inl rfl)
theorem WaitM.ends {r : Int} {L : List EgM} (h : ∀ e ∈ L, WaitM.fine r e) : GrM.check 60 L = 0 ∨ GrM.check 60 L = 2 := by
  unfold GrM.check
  rw [if_neg (by omega)]
  split
  · exact Or.inr rfl
  · rw [if_pos]
    · exact Or.inl rfl
    · unfold GrM.formOk
      rw [List.all_eq_true]
      intro e he
      obtain ⟨h1, h2, h3, h4, _⟩ := h e he
      exact decide_eq_true ⟨h1, h2, h3, h4⟩
theorem WaitM.order {r : Int} {L : List EgM} (h : ∀ e ∈ L, WaitM.fine r e) : ∃ x, GrM.order 60 L = some x := by
  refine GrM.order_of_rise ?_
  by_cases hr : r = 1
  · left
    intro e he
    have := (h e he).2.2.2.2
    rwa [if_pos hr] at this
  · right
    intro e he
    have := (h e he).2.2.2.2
    rwa [if_neg hr] at this

theorem rest_q (x : Int) (W : World) : Calls Try.prog 14 #[.int .i64 x, .int .i64 60] W fun e w' => e = .returned (.int .i64 (((x % ((60 : Nat) : Int)).toNat : Nat) : Int)) ∧ w' = W :=
  (rest_any x 60 W (by omega) (by omega)).mono (fun _ _ ⟨h1, h2⟩ => ⟨h1, h2.symm⟩)

set_option maxRecDepth 20000 in
set_option maxHeartbeats 8000000 in
theorem waitRule_calls (r : Int) (L : List EgM) (ao : Option Addr) (cap : Nat) (w : World) (h : EgsAt w ao L) (hlen : L.length ≤ 8796093022207) :
    Calls Try.prog 9 #[.int .i64 r, .slice ao L.length cap] w fun e w' => e = .returned (.bool true) ∧ Below w.heap.size w w' := by
  obtain ⟨i0, hi0, hz0, hz1, hz2⟩ := info_parts Try.infoEg
  have H := box h
  obtain ⟨N, HN⟩ : ∃ N, Box (L.length = N) := ⟨_, ⟨rfl⟩⟩
  rw [HN.out] at hlen ⊢
  clear h
  go_enter Try.func9, Try.ntmps9
  go_wp2_with fail
  refine (waitRule_any 1 1 2 w).mono ?_
  rintro e w' ⟨rfl, rfl⟩
  have e0 : WaitM.res 1 1 2 = (1, 0) := by decide
  rw [e0]
  clear e0
  go_wp2_with fail
  go_loopw [7, 28] (fun t7 t28 wr => ∃ (k : Nat) (a : Option Addr) (c : Nat) (E : List EgM), k ≤ N ∧ E.length ≤ k ∧ t28 = .int .i64 (k : Int) ∧ t7 = .slice a E.length c ∧ Box (Below w.heap.size w wr ∧ wr.ownsRow w.heap.size 72 2 (.slice a E.length c) E.length (egVals E) ∧ ∀ e ∈ E, WaitM.fine r e)) (fun _ t28 _ => N - (RowKit.intOf t28).toNat)
  case atStart => exact ⟨0, none, 0, [], Nat.zero_le _, Nat.le_refl _, rfl, rfl, ⟨Below.refl _ _, World.ownsRow_nil _ _ _ _, by simp⟩⟩
  case round =>
    obtain ⟨k, a, c, E, hk, hEk, rfl, rfl, HR⟩ := hrel
    by_cases hlt : k < N
    case neg =>
      obtain rfl : k = N := by omega
      obtain ⟨eo, ec, h1, _, hat, _, _⟩ := EgsAt.own HR.out.2.1
      injection h1 with h1 _ h3
      subst h1; subst h3
      have HAt := box hat
      have HEn := box (WaitM.ends HR.out.2.2)
      have HOr := box (WaitM.order HR.out.2.2)
      clear hat
      go_wp2_with fail
      refine (graphOrder_any 60 E a _ wr HAt.out (by omega)).mono ?_
      rintro e w5 ⟨hb5, hc⟩
      have HB5 := box (below_tr HR.out.1 hb5)
      clear hb5
      rcases hc with ⟨hc0, rfl⟩ | ⟨hc0, ho, rfl⟩ | ⟨hc0, x, v, ho, rfl, hv⟩
      · have e2 := HEn.out.resolve_left hc0
        rw [e2]
        clear hc0 e2
        go_wp2_with fail
        go_ret
        exact ⟨rfl, HB5.out⟩
      · obtain ⟨x, hx⟩ := HOr.out
        exact absurd (ho.symm.trans hx) (by simp)
      · obtain ⟨va, vc, rfl⟩ : ∃ va vc, v = .slice va x.length vc := by
          rcases hv.2 with ⟨h1, h2⟩ | ⟨g, cap, cur, h1, _⟩
          · exact ⟨none, 0, by rw [h1, h2]⟩
          · exact ⟨_, _, h1⟩
        clear hc0 ho hv
        go_wp2_with fail
        go_ret
        exact ⟨rfl, HB5.out⟩
    have hkl : k < L.length := by rw [HN.out]; exact hlt
    obtain ⟨b, off, rfl, hb, hrow⟩ := (H.out.below HR.out.1 (Nat.le_refl _)).resolve_left (by intro h; have := HN.out; rw [h] at this; simp at this; omega)
    obtain ⟨c0, c1⟩ := hrow k hkl
    obtain ⟨f, Hf⟩ : ∃ f, Box (L[k].frm = f) := ⟨_, ⟨rfl⟩⟩
    obtain ⟨t, Ht⟩ : ∃ t, Box (L[k].to_ = t) := ⟨_, ⟨rfl⟩⟩
    rw [Hf.out] at c0; rw [Ht.out] at c1
    clear hrow
    have hR0 := HR.out.1.size
    have HB1 : Box (Below w.heap.size w (wr.alloc (.cells #[.int .i64 f, .int .i64 t] 72))) := ⟨HR.out.1.alloc hR0 _⟩
    have HX1 := box (Blk.new wr [.int .i64 f, .int .i64 t] 72)
    have HO1 := box (HR.out.2.1.alloc (.cells #[.int .i64 f, .int .i64 t] 72))
    go_upto_region 8 with (fail)
    obtain ⟨X, HXe⟩ : ∃ X, Box (wr.heap.size = X) := ⟨_, ⟨rfl⟩⟩
    obtain ⟨W, HWe⟩ : ∃ W, Box (wr.alloc (.cells #[.int .i64 f, .int .i64 t] 72) = W) := ⟨_, ⟨rfl⟩⟩
    have HX2 : Box (Blk W X 72 [.int .i64 f, .int .i64 t]) := ⟨by rw [← HXe.out, ← HWe.out]; exact HX1.out⟩
    rw [HWe.out] at HB1 HO1 ⊢
    rw [HXe.out]
    have x0 := HX2.out.cell (i := 0) rfl
    have x1 := HX2.out.cell (i := 1) rfl
    clear HX1 c0 c1 hb
    go_quiet (first | (go_at_call 14; exact Calls.quiet_of_same (rest_q _ _)))
    obtain ⟨x, Hx⟩ : ∃ x : Int, Box ((((f % ((60 : Nat) : Int)).toNat : Nat) : Int) = x) := ⟨_, ⟨rfl⟩⟩
    obtain ⟨y, Hy⟩ : ∃ x : Int, Box ((((t % ((60 : Nat) : Int)).toNat : Nat) : Int) = x) := ⟨_, ⟨rfl⟩⟩
    rw [Hx.out, Hy.out]
    go_wp2_with fail
    have HBd : Box (0 ≤ x ∧ x < 60 ∧ 0 ≤ y ∧ y < 60) := ⟨by have := Hx.out; have := Hy.out; omega⟩
    have HB3 : Box (Below w.heap.size w (W.drewN nq)) := ⟨HB1.out.trans ⟨rfl, rfl, rfl, Nat.le_refl _, fun _ _ => rfl⟩⟩
    have HO3 : Box ((W.drewN nq).ownsRow w.heap.size 72 2 (.slice a E.length c) E.length (egVals E)) := ⟨HO1.out⟩
    generalize W.drewN nq = W3 at *
    refine (waitRule_any r x y W3).mono ?_
    rintro e w4 ⟨rfl, rfl⟩
    have HCs := box (WaitM.res_cases r x y)
    have HWt := box (fun h => WaitM.res_wait (r := r) (a := x) (b := y) h)
    generalize WaitM.res r x y = res at *
    clear x0 x1
    rcases HCs.out with ⟨cc, rfl, hcc⟩ | rfl | ⟨rfl, hxy⟩ | ⟨rfl, hxy⟩
    · have d0 : (cc == 0) = false := by simpa using hcc
      clear hcc
      go_wp2_with fail
      go_roundw
      case rel => exact ⟨k + 1, a, c, E, by omega, by omega, by go_num, rfl, ⟨HB3.out, HO3.out, HR.out.2.2⟩⟩
      case measure => simp [RowKit.intOf]; omega
    · have HFn := box (HWt.out rfl)
      have hbs := HB3.out.size
      have hown := HO3.out.alloc (.cells #[.int .i64 x, .int .i64 y] 72)
      go_wp2_with (at_builtin; go_must (refine wpList_append_lies _ rfl _ _ 62 rfl w.heap.size 72 i0 _ 2 16 Try.underlying62 hi0 hz0 hz1 hz2 rfl (by decide) _ _ _ rfl hown ⟨W3.heap.size, 0, none⟩ 1 1 [.int .i64 x, .int .i64 y] rfl rfl (cells_new W3 [.int .i64 x, .int .i64 y] 72) (by simp [Value.oneCell']) (by decide) (by unfold maxLen; omega) (by omega) (by simp; omega) (W3.heap.size + 1) (by simp) ?_))
      intro gg gcap w7 hown7 hgrow7 hat7 hlt7
      have hE1 : (E ++ [EgM.mk x y]).length = E.length + 1 := by simp
      have HNx : Box (Below w.heap.size w w7 ∧ w7.ownsRow w.heap.size 72 2 (.slice (some ⟨gg, 0, none⟩) (E ++ [EgM.mk x y]).length gcap) (E ++ [EgM.mk x y]).length (egVals (E ++ [EgM.mk x y])) ∧ ∀ e ∈ E ++ [EgM.mk x y], WaitM.fine r e) := ⟨by
        refine ⟨(HB3.out.alloc hbs _).grown hgrow7 (by simp; omega) (fun j hj => (HO3.out.lt j hj).1), ?_, fun e he => ?_⟩
        · rw [hE1, egVals_append]; exact hown7
        · rcases List.mem_append.1 he with he | he
          · exact HR.out.2.2 e he
          · rw [List.mem_singleton] at he
            subst he
            obtain ⟨b1, b2, b3, b4⟩ := HBd.out
            exact ⟨b1, b2, b3, b4, HFn.out⟩⟩
      clear hown7 hgrow7 hat7 hlt7 hown
      go_wp2_with fail
      go_roundw
      case rel => exact ⟨k + 1, some ⟨gg, 0, none⟩, gcap, E ++ [EgM.mk x y], by omega, by rw [hE1]; omega, by go_num, by rw [hE1], ⟨HNx.out⟩⟩
      case measure => simp [RowKit.intOf]; omega
    · have d0 : decide (x < y) = false := by simpa using hxy
      clear hxy
      go_wp2_with fail
      go_roundw
      case rel => exact ⟨k + 1, a, c, E, by omega, by omega, by go_num, rfl, ⟨HB3.out, HO3.out, HR.out.2.2⟩⟩
      case measure => simp [RowKit.intOf]; omega
    · have d0 : decide (y < x) = false := by simpa using hxy
      clear hxy
      go_wp2_with fail
      go_roundw
      case rel => exact ⟨k + 1, a, c, E, by omega, by omega, by go_num, rfl, ⟨HB3.out, HO3.out, HR.out.2.2⟩⟩
      case measure => simp [RowKit.intOf]; omega
namespace lawWaitRule
open Go.ChangeShapes Go.WideShapes Go.ChangeAt Go.RowKit Go.ChangeMaps

set_option maxRecDepth 100000 in
theorem lifted (os : Os) (started : os.Started) (H : Type) (enc : TypeId × Value → H) :
    ReturnsInHanded {} Try.checked os 9 .any (Rows.waitRuleSpec.pre6 enc Try.prog Try.f9 [] false) (Rows.waitRuleSpec.post enc Try.prog Try.f9 false true false false) := by
  refine LawKit.law_lifted started (by kernel_rfl) Try.func9 rfl
    (fun ds h => by
      match ds, h with
      | [_, _], _ => rfl)
    rfl Try.underlying4 (by intro t ht; exact of_decide_eq_true (p := Try.prog.readableRec t = true ∧ t < Try.prog.types.size) (by revert t ht; decide +kernel))
    (ChangeSpec.witness6 (enc := enc) (C := Try.checked) false ⟨#[], #[.int .i64 0, .slice none 0 0], []⟩ 8 (by kernel_rfl) (by kernel_rfl) (by kernel_rfl) (by kernel_rfl)) ?_
  intro W base args ds ps hval hA hsz hlt hfz
  have hA' := hA
  rw [Try.params9] at hA hval
  obtain ⟨v0, vs0, d0, ds0, p0, q0, hargs, rfl, rfl, h0, r0⟩ := trodAll_cons hA
  obtain ⟨v1, vs1, d1, ds1, p1, q1, rfl, rfl, rfl, h1, r1⟩ := trodAll_cons r0
  obtain ⟨rfl, rfl, rfl⟩ := trodAll_nil r1
  obtain rfl : args = #[v0, v1] := by cases args; simp_all
  go_open 0 r
  obtain ⟨ao, cap, L, rfl, hat, _, _, hln⟩ := open_egs (hval 1 _ _ rfl rfl) h1 (Open.weights_bound hsz (j := 1) (by rw [Try.params9]; rfl) rfl)
  refine (waitRule_calls r L ao cap W hat (by omega)).mono ?_
  rintro e W' ⟨rfl, hb⟩
  exact ⟨rfl, hb⟩

theorem proved : Rows.WaitRuleSaid :=
  OpenClaim.holds_of_wide 9 Try.f9 rfl rfl rfl rfl rfl rfl rfl ⟨rfl, rfl, rfl, rfl, rfl⟩ rfl rfl rfl rfl rfl (by kernel_rfl) Try.func9 (by kernel_rfl)
    (of_decide_eq_true (by kernel_rfl)) (by unfold Func.isWrapper; first | (rw [if_pos (by decide +kernel)]; kernel_rfl) | (rw [if_neg (by decide +kernel)]; exact ⟨rfl, rfl⟩))
    (fun os started H enc _ => lifted os started H enc)
end lawWaitRule
end Go.Proofs.Ytnpiiggmdekfiaa
