/- WalFalls is proved for every input, the listed package-level variables being as the program lays them: the tied card. -/
import Derived.Test.YtpeaefeoogcepaaDoorDeedOpen
import Derived.Test.YtpeaefeoogcepaaDoorWalFallsW
import Derived.Test.YtpeaefeoogcepaaDoorLawLaid
import Derived.Test.YtpeaefeoogcepaaDoorTie
import Derived.Test.YtpeaefeoogcepaaDoorCards
namespace Go.Proofs.YtpeaefeoogcepaaDoor
open Go.RowKit Go.Lib

namespace lawWalFalls
open Go.ChangeShapes Go.WideShapes Go.ChangeAt Go.RowKit Go.ChangeMaps

set_option maxRecDepth 100000 in
theorem lifted (os : Os) (started : os.Started) (H : Type) (enc : TypeId × Value → H) :
    ReturnsInHanded {} Tryd.checked os 4 .any (fun w args => (Rows.walFallsSpec.pre enc Tryd.prog Tryd.f4 [] false w args ∧ laidMetH Tryd.prog Rows.walFallsRow.laid w) ∧ sizedMet enc Tryd.prog Tryd.f4 (OpenSpec.ofChange Rows.walFallsSpec) false w args)
      (Rows.walFallsSpec.post enc Tryd.prog Tryd.f4 false true false false) := by
  refine LawKit.law_lifted_laid (laid := Rows.walFallsRow.laid) started (by kernel_rfl) Tryd.func4 rfl
    (fun ds h => by
      match ds, h with
      | [_], _ => rfl)
    rfl Tryd.underlying4 (by intro t ht; exact of_decide_eq_true (p := Tryd.prog.readableRec t = true ∧ t < Tryd.prog.types.size) (by revert t ht; decide +kernel))
    (ChangeSpec.witness_shaped (enc := enc) (C := Tryd.checked) (os := os) (X := fun w _ => laidMetH Tryd.prog Rows.walFallsRow.laid w) false (World.laidAll Tryd.prog os Rows.walFallsRow.laid) #[.slice none 0 0] 8 (World.laidAll_os _ _ _)
      (World.shaped_of_ZipB (by kernel_rfl) (by kernel_rfl)) (by kernel_rfl) (by kernel_rfl) (by kernel_rfl)
      (by rw [MakeChecks.laidMetH_plain _ _ _ (by kernel_rfl)]; exact laidMet_laidAll _ (by kernel_rfl) (by kernel_rfl))) ?_
  intro W base args ds ps hval hA hsz hlt hfz
  rw [Tryd.params4] at hA hval
  obtain ⟨v0, vs0, d0, ds0, p0, q0, hargs, rfl, rfl, h0, r0⟩ := trodAll_cons hA
  obtain ⟨rfl, rfl, rfl⟩ := trodAll_nil r0
  obtain rfl : args = #[v0] := by cases args; simp_all
  obtain ⟨ao, cap, L, rfl, hat, hcap, hcap2⟩ := open_deeds (hval 0 _ _ rfl rfl) h0 (Open.weights_bound hsz (j := 0) (by rw [Tryd.params4]; rfl) rfl)
  refine (walFalls_calls L ao cap W hat hcap hcap2).mono ?_
  rintro e W' ⟨rfl, hb⟩
  exact ⟨rfl, hb⟩

theorem said : Rows.WalFallsSaid :=
  OpenClaim.holds_of_wide 4 Tryd.f4 rfl rfl rfl rfl rfl rfl rfl ⟨rfl, rfl, rfl, rfl, rfl⟩ rfl rfl rfl rfl rfl (by kernel_rfl) Tryd.func4 (by kernel_rfl)
    (of_decide_eq_true (by kernel_rfl)) (by unfold Func.isWrapper; first | (rw [if_pos (by decide +kernel)]; kernel_rfl) | (rw [if_neg (by decide +kernel)]; exact ⟨rfl, rfl⟩))
    (fun os started H enc _ => lifted os started H enc)

theorem proved : Rows.WalFallsCardSaid :=
  Claim7.holds_tied_plain_at .later [] [.data, .pinned] true (true, "c50f21b65185a8b73f6d9476a9d998c9b69ee6a88bb9984f678e5ef2ea2681db") false said (fun _ h => by cases h) (by kernel_rfl) (fun _ h => by cases h) walFalls_row_tie rfl ⟨rfl, rfl⟩ (by kernel_rfl) rfl
    (fun f fn hf hfn => by
      obtain rfl : f = 4 := Option.some.inj ((show Tryd.prog.funcNamed "quirestock/quirkeep.WalFalls" = some 4 by kernel_rfl).symm.trans hf) |>.symm
      obtain rfl : fn = Tryd.f4 := (Option.some.inj (Tryd.func4.symm.trans hfn)).symm
      exact ⟨by kernel_rfl, fun j t ht => by
        rw [Tryd.params4] at ht
        have hm : t ∈ [34] := by simpa using Array.mem_of_getElem? ht
        have hall : ([34].all fun u => !Tryd.prog.wantsStandIn u) = true := by kernel_rfl
        exact (show Tryd.prog.wantsStandIn t = false by simpa using List.all_eq_true.1 hall t hm)⟩)
    (by kernel_rfl)
end lawWalFalls
end Go.Proofs.YtpeaefeoogcepaaDoor
