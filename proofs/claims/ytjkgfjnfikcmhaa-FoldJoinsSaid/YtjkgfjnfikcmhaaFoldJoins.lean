/- FoldJoins is proved for every input: the sum of two texts is that of both joined. -/
import Derived.Test.YtjkgfjnfikcmhaaLawKit
import Derived.Test.YtjkgfjnfikcmhaaFold
namespace Go.Proofs.Ytjkgfjnfikcmhaa
open Go.RowKit Go.Lib

theorem FoldSum.sum_nil : FoldSum.sum [] = 1 := by decide
theorem FoldSum.sum_wiki : FoldSum.sum [87, 105, 107, 105, 112, 101, 100, 105, 97] = 300286872 := by decide +kernel

theorem sum_nil (w : World) : Calls Try.prog 11 #[.string { data := #[] }] w fun e w' => e = .returned (.int .u32 1) ∧ w = w' :=
  (sum_any { data := #[] } w (by decide)).mono fun e w' ⟨h1, h2⟩ => ⟨by rw [h1]; exact congrArg (fun x => Ending.returned (.int .u32 x)) FoldSum.sum_nil, h2⟩
theorem sum_wiki (w : World) : Calls Try.prog 11 #[.string { data := #[87, 105, 107, 105, 112, 101, 100, 105, 97] }] w fun e w' => e = .returned (.int .u32 300286872) ∧ w = w' :=
  (sum_any { data := #[87, 105, 107, 105, 112, 101, 100, 105, 97] } w (by decide)).mono fun e w' ⟨h1, h2⟩ => ⟨by rw [h1]; exact congrArg (fun x => Ending.returned (.int .u32 x)) FoldSum.sum_wiki, h2⟩

set_option maxHeartbeats 400000 in
theorem foldJoins_calls (s t : ByteArray) (w : World) (hs : s.size + 4096 ≤ 9223372036854775807) (ht : t.size ≤ 9223372036854775807) :
    Calls Try.prog 3 #[.string s, .string t] w fun e w' => e = .returned (.bool true) ∧ w = w' := by
  by_cases hlt : t.size ≤ 4096
  · go_enter Try.func3, Try.ntmps3
    go_wp2_with fail
    refine (sum_nil _).mono ?_
    rintro e w' ⟨rfl, rfl⟩
    go_wp2_with fail
    refine (sum_wiki _).mono ?_
    rintro e w' ⟨rfl, rfl⟩
    go_wp2_with fail
    refine (sum_any s _ (by unfold maxLen; omega)).mono ?_
    rintro e w' ⟨rfl, rfl⟩
    go_wp2_with fail
    refine (sum_any t _ ht).mono ?_
    rintro e w' ⟨rfl, rfl⟩
    go_wp2_with fail
    refine (join_any s.data.toList t.data.toList t.size _ (by simp) hlt).mono ?_
    rintro e w' ⟨rfl, rfl⟩
    go_wp2_with fail
    refine (sum_any (s ++ t) _ (by unfold maxLen; rw [ByteArray.size_append]; omega)).mono ?_
    rintro e w' ⟨rfl, rfl⟩
    rw [show (s ++ t).data.toList = s.data.toList ++ t.data.toList by simp]
    go_wp2_with fail
    go_ret
    exact ⟨rfl, rfl⟩
  · go_enter Try.func3, Try.ntmps3
    go_wp2_with fail
    refine (sum_nil _).mono ?_
    rintro e w' ⟨rfl, rfl⟩
    go_wp2_with fail
    refine (sum_wiki _).mono ?_
    rintro e w' ⟨rfl, rfl⟩
    go_wp2_with fail
    go_ret
    exact ⟨rfl, rfl⟩

namespace lawFoldJoins
open Go.ChangeShapes Go.WideShapes Go.ChangeAt Go.RowKit Go.ChangeMaps

set_option maxRecDepth 100000 in
theorem lifted (os : Os) (started : os.Started) (H : Type) (enc : TypeId × Value → H) :
    ReturnsInHanded {} Try.checked os 3 .any (Rows.foldJoinsSpec.pre6 enc Try.prog Try.f3 [] false) (Rows.foldJoinsSpec.post enc Try.prog Try.f3 false true false false) := by
  refine LawKit.law_lifted started (by kernel_rfl) Try.func3 rfl
    (fun ds h => by
      match ds, h with
      | [_, _], _ => rfl)
    rfl Try.underlying4 (by intro t ht; exact of_decide_eq_true (p := Try.prog.readableRec t = true ∧ t < Try.prog.types.size) (by revert t ht; decide +kernel))
    (ChangeSpec.witness6 (enc := enc) (C := Try.checked) false ⟨#[], #[.string ⟨#[]⟩, .string ⟨#[]⟩], []⟩ 8 (by kernel_rfl) (by kernel_rfl) (by kernel_rfl) (by kernel_rfl)) ?_
  intro W base args ds ps hval hA hsz hlt hfz
  have hA' := hA
  rw [Try.params3] at hA hval
  obtain ⟨v0, v1, d0, d1, p0, p1, rfl, rfl, rfl, h0, h1⟩ := trodAll_two hA
  go_open 0 s
  go_open 1 t
  have z0 := sized_string hsz (j := 0) (by rw [Try.params3]; rfl) rfl
  have z1 := sized_string hsz (j := 1) (by rw [Try.params3]; rfl) rfl
  have hr := reachBytes_lt
  simp only [Array.length_toList] at z0 z1
  refine (foldJoins_calls s t W ?_ ?_).mono ?_
  · simp only [ByteArray.size]; omega
  · simp only [ByteArray.size]; omega
  rintro e W' ⟨rfl, rfl⟩
  exact ⟨rfl, Below.refl _ _⟩

theorem proved : Rows.FoldJoinsSaid :=
  OpenClaim.holds_of_wide 3 Try.f3 rfl rfl rfl rfl rfl rfl rfl ⟨rfl, rfl, rfl, rfl, rfl⟩ rfl rfl rfl rfl rfl (by kernel_rfl) Try.func3 (by kernel_rfl)
    (of_decide_eq_true (by kernel_rfl)) (by unfold Func.isWrapper; first | (rw [if_pos (by decide +kernel)]; kernel_rfl) | (rw [if_neg (by decide +kernel)]; exact ⟨rfl, rfl⟩))
    (fun os started H enc _ => lifted os started H enc)
end lawFoldJoins
end Go.Proofs.Ytjkgfjnfikcmhaa
