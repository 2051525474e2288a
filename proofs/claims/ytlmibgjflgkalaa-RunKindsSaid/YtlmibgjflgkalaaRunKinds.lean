/- RunKinds is proved for every input: strict runs are cascadeless, these recoverable. -/
import Derived.Test.YtlmibgjflgkalaaLawKit
import Derived.Test.YtlmibgjflgkalaaKinds
import Derived.Test.YtlmibgjflgkalaaOpsOpen
import Derived.Test.YtlmibgjflgkalaaOp
namespace Go.Proofs.Ytlmibgjflgkalaa
open Go.RowKit Go.Lib

def KindsM.four : List OpM := [⟨0, 2, 1⟩, ⟨1, 1, 1⟩, ⟨0, 3, 0⟩, ⟨1, 3, 0⟩]
theorem kinds_four (b cap : Nat) (w : World) (h : Blk w b 42 [.int .i64 0, .int .i64 2, .int .i64 1, .int .i64 1, .int .i64 1, .int .i64 1, .int .i64 0, .int .i64 3, .int .i64 0, .int .i64 1, .int .i64 3, .int .i64 0]) :
    Calls Try.prog 18 #[.slice (some ⟨b, 0, none⟩) 4 cap] w fun e w' => e = .returned (.tuple #[.agg #[.bool true, .bool false, .bool false], .int .i64 0]) ∧ Below w.heap.size w w' := by
  refine (kinds_any KindsM.four (some ⟨b, 0, none⟩) cap w (Or.inr ⟨b, 0, rfl, h.lt, ?_⟩) ⟨by decide, by decide⟩).mono fun e w' ⟨h1, h2⟩ => ⟨by rw [h1]; rfl, h2⟩
  intro k hk
  match k, hk with
  | 0, _ => exact ⟨h.cell rfl, h.cell rfl, h.cell rfl⟩
  | 1, _ => exact ⟨h.cell rfl, h.cell rfl, h.cell rfl⟩
  | 2, _ => exact ⟨h.cell rfl, h.cell rfl, h.cell rfl⟩
  | 3, _ => exact ⟨h.cell rfl, h.cell rfl, h.cell rfl⟩

set_option maxRecDepth 20000 in
set_option maxHeartbeats 4000000 in
theorem runKinds_calls (l : List OpM) (ao : Option Addr) (cap : Nat) (w : World) (h : OpsAt w ao l) (hf : RunM.Fits l) :
    Calls Try.prog 4 #[.slice ao l.length cap] w fun e w' => e = .returned (.bool true) ∧ Below w.heap.size w w' := by
  have H := box h; have Hf := box hf
  clear h hf
  go_enter Try.func4, Try.ntmps4
  go_wp2_with fail
  refine (op_any _ _ _ _).mono ?_
  rintro e w1 ⟨rfl, hb1⟩
  have HB1 := box hb1; clear hb1
  go_wp2_with fail
  refine (op_any _ _ _ _).mono ?_
  rintro e w2 ⟨rfl, hb2⟩
  have HB2 := box (below_tr HB1.out hb2); clear hb2
  go_wp2_with fail
  refine (op_any _ _ _ _).mono ?_
  rintro e w3 ⟨rfl, hb3⟩
  have HB3 := box (below_tr HB2.out hb3); clear hb3
  go_wp2_with fail
  refine (op_any _ _ _ _).mono ?_
  rintro e w4 ⟨rfl, hb4⟩
  have HB4 := box (below_tr HB3.out hb4); clear hb4 HB1 HB2 HB3
  go_wp2_with fail
  refine (kinds_four w4.heap.size 4 _ (Blk.new w4 [.int .i64 0, .int .i64 2, .int .i64 1, .int .i64 1, .int .i64 1, .int .i64 1, .int .i64 0, .int .i64 3, .int .i64 0, .int .i64 1, .int .i64 3, .int .i64 0] _)).mono ?_
  rintro e w5 ⟨rfl, hb5⟩
  have HB5 := box (below_tr (HB4.out.alloc HB4.out.size _) hb5); clear hb5
  go_wp2_with fail
  refine (kinds_any l ao cap _ (H.out.below (HB5.out.alloc HB5.out.size _) (Nat.le_refl _)) Hf.out).mono ?_
  rintro e w6 ⟨rfl, hb6⟩
  have HB6 := box (below_tr (HB5.out.alloc HB5.out.size _) hb6); clear hb6
  have HL := box (fun h => KindsM.law (l := l) h)
  unfold KindsM.out
  obtain ⟨c, HC⟩ : ∃ c, Box (RunM.check l = c) := ⟨_, ⟨rfl⟩⟩
  rw [HC.out] at HL ⊢
  by_cases h0 : c = 0
  · subst h0
    rw [if_pos rfl]
    obtain ⟨l1, l2⟩ := HL.out rfl
    clear HL
    generalize (KindsM.run l).rc = r at *
    generalize (KindsM.run l).cc = cc at *
    generalize (KindsM.run l).sc = s at *
    cases s <;> cases cc <;> cases r <;> first
      | (exact absurd (l1 rfl) (by decide))
      | (exact absurd (l2 rfl) (by decide))
      | (clear l1 l2
         go_wp2_with fail
         go_ret
         exact ⟨rfl, HB6.out.alloc HB6.out.size _⟩)
  · rw [if_neg h0]
    have g1 : (c == 0) = false := by simp [h0]
    have g2 : (c != 0) = true := by simp [h0]
    clear h0 HL
    go_wp2_with fail
    go_ret
    exact ⟨rfl, HB6.out.alloc HB6.out.size _⟩
namespace lawRunKinds
open Go.ChangeShapes Go.WideShapes Go.ChangeAt Go.RowKit Go.ChangeMaps

set_option maxRecDepth 100000 in
theorem lifted (os : Os) (started : os.Started) (H : Type) (enc : TypeId × Value → H) :
    ReturnsInHanded {} Try.checked os 4 .any (Rows.runKindsSpec.pre6 enc Try.prog Try.f4 [] false) (Rows.runKindsSpec.post enc Try.prog Try.f4 false true false false) := by
  refine LawKit.law_lifted started (by kernel_rfl) Try.func4 rfl
    (fun ds h => by
      match ds, h with
      | [_], _ => rfl)
    rfl Try.underlying4 (by intro t ht; exact of_decide_eq_true (p := Try.prog.readableRec t = true ∧ t < Try.prog.types.size) (by revert t ht; decide +kernel))
    (ChangeSpec.witness6 (enc := enc) (C := Try.checked) false ⟨#[], #[.slice none 0 0], []⟩ 8 (by kernel_rfl) (by kernel_rfl) (by kernel_rfl) (by kernel_rfl)) ?_
  intro W base args ds ps hval hA hsz hlt hfz
  have hA' := hA
  rw [Try.params4] at hA hval
  obtain ⟨v0, vs0, d0, ds0, p0, q0, hargs, rfl, rfl, h0, r0⟩ := trodAll_cons hA
  obtain ⟨rfl, rfl, rfl⟩ := trodAll_nil r0
  obtain rfl : args = #[v0] := by cases args; simp_all
  obtain ⟨ao, cap, ls, rfl, hnil, hat, hfits, _, _⟩ := open_ops (hval 0 _ _ rfl rfl) h0 (Open.weights_bound hsz (j := 0) (by rw [Try.params4]; rfl) rfl)
  refine (runKinds_calls ls ao cap W hat hfits).mono ?_
  rintro e W' ⟨rfl, hb⟩
  exact ⟨rfl, hb⟩

theorem proved : Rows.RunKindsSaid :=
  OpenClaim.holds_of_wide 4 Try.f4 rfl rfl rfl rfl rfl rfl rfl ⟨rfl, rfl, rfl, rfl, rfl⟩ rfl rfl rfl rfl rfl (by kernel_rfl) Try.func4 (by kernel_rfl)
    (of_decide_eq_true (by kernel_rfl)) (by unfold Func.isWrapper; first | (rw [if_pos (by decide +kernel)]; kernel_rfl) | (rw [if_neg (by decide +kernel)]; exact ⟨rfl, rfl⟩))
    (fun os started H enc _ => lifted os started H enc)
end lawRunKinds
end Go.Proofs.Ytlmibgjflgkalaa
