/- RedoOwn: logs, versions and times that are handed in stay, with the memory behind them, and answers are new memory: RedoOwn answers true for every log, versions, times and now. -/
import Derived.Test.YtfmgncfikaefhaaRedoOwnW
import Derived.Test.YtfmgncfikaefhaaRedoOpen
import Derived.Test.YtfmgncfikaefhaaVersOpen
import Derived.Test.YtfmgncfikaefhaaLawKit
namespace Go.Proofs.Ytfmgncfikaefhaa
namespace lawRedoOwn
open Go.ChangeShapes Go.WideShapes Go.ChangeAt Go.RowKit Go.ChangeMaps

set_option maxRecDepth 100000 in
theorem lifted (os : Os) (started : os.Started) (H : Type) (enc : TypeId × Value → H) :
    ReturnsInHanded {} Try.checked os 5 .any (Rows.redoOwnSpec.pre6 enc Try.prog Try.f5 [] false) (Rows.redoOwnSpec.post enc Try.prog Try.f5 false true false false) := by
  refine LawKit.law_lifted started (by kernel_rfl) Try.func5 rfl
    (fun ds h => by
      match ds, h with
      | [_, _, _, _], _ => rfl)
    rfl Try.underlying4 (by intro t ht; exact of_decide_eq_true (p := Try.prog.readableRec t = true ∧ t < Try.prog.types.size) (by revert t ht; decide +kernel))
    (ChangeSpec.witness6 (enc := enc) (C := Try.checked) false ⟨#[], #[.slice none 0 0, .slice none 0 0, .slice none 0 0, .int .i64 0], []⟩ 8 (by kernel_rfl) (by kernel_rfl) (by kernel_rfl) (by kernel_rfl)) ?_
  intro W base args ds ps hval hA hsz hlt hfz
  have hA' := hA
  rw [Try.params5] at hA hval
  obtain ⟨v0, vs0, d0, ds0, p0, q0, hargs, rfl, rfl, h0, r0⟩ := trodAll_cons hA
  obtain ⟨v1, vs1, d1, ds1, p1, q1, rfl, rfl, rfl, h1, r1⟩ := trodAll_cons r0
  obtain ⟨v2, vs2, d2, ds2, p2, q2, rfl, rfl, rfl, h2, r2⟩ := trodAll_cons r1
  obtain ⟨v3, vs3, d3, ds3, p3, q3, rfl, rfl, rfl, h3, r3⟩ := trodAll_cons r2
  obtain ⟨rfl, rfl, rfl⟩ := trodAll_nil r3
  obtain rfl : args = #[v0, v1, v2, v3] := by cases args; simp_all
  go_open 3 now
  obtain ⟨ao, cap, l, rfl, hnil, hat, hlc, hcap⟩ := open_recs (hval 0 _ _ rfl rfl) h0 (Open.weights_bound hsz (j := 0) (by rw [Try.params5]; rfl) rfl)
  obtain ⟨bo, cap1, vs, rfl, hnil1, hat1, hlc1, hcap1⟩ := open_vers (hval 1 _ _ rfl rfl) h1 (Open.weights_bound hsz (j := 1) (by rw [Try.params5]; rfl) rfl)
  obtain ⟨co, cap2, act, rfl, hnil2, hat2, hlc2, hcap2, _⟩ := open_numbers (hval 2 _ _ rfl rfl) h2 (Open.weights_bound hsz (j := 2) (by rw [Try.params5]; rfl) rfl)
  refine (redoOwn_calls l vs act now ao bo co cap cap1 cap2 W hat hat1 hat2 hnil hnil1 hnil2 (by omega) (by omega) (by omega)).mono ?_
  rintro e W' ⟨rfl, hb⟩
  exact ⟨rfl, hb⟩

theorem proved : Rows.RedoOwnSaid :=
  OpenClaim.holds_of_wide 5 Try.f5 rfl rfl rfl rfl rfl rfl rfl ⟨rfl, rfl, rfl, rfl, rfl⟩ rfl rfl rfl rfl rfl (by kernel_rfl) Try.func5 (by kernel_rfl)
    (of_decide_eq_true (by kernel_rfl)) (by unfold Func.isWrapper; first | (rw [if_pos (by decide +kernel)]; kernel_rfl) | (rw [if_neg (by decide +kernel)]; exact ⟨rfl, rfl⟩))
    (fun os started H enc _ => lifted os started H enc)
end lawRedoOwn
end Go.Proofs.Ytfmgncfikaefhaa
