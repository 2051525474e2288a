/- CodeOnly is proved for every input: bytes that are read as a number, or a text, are those that it has; the greater number has no fewer. -/
import Derived.Test.YtjkgfjnfikcmhaaCodeLaws
namespace Go.Proofs.Ytjkgfjnfikcmhaa
open Go.RowKit Go.Lib

namespace lawCodeOnly
open Go.ChangeShapes Go.WideShapes Go.ChangeAt Go.RowKit Go.ChangeMaps

set_option maxRecDepth 100000 in
theorem lifted (os : Os) (started : os.Started) (H : Type) (enc : TypeId × Value → H) :
    ReturnsInHanded {} Try.checked os 6 .any (Rows.codeOnlySpec.pre6 enc Try.prog Try.f6 [] false) (Rows.codeOnlySpec.post enc Try.prog Try.f6 false true false false) := by
  refine LawKit.law_lifted started (by kernel_rfl) Try.func6 rfl
    (fun ds h => by
      match ds, h with
      | [_, _, _], _ => rfl)
    rfl Try.underlying4 (by intro t ht; exact of_decide_eq_true (p := Try.prog.readableRec t = true ∧ t < Try.prog.types.size) (by revert t ht; decide +kernel))
    (ChangeSpec.witness6 (enc := enc) (C := Try.checked) false ⟨#[], #[.string ⟨#[]⟩, .int .u64 0, .int .u64 0], []⟩ 8 (by kernel_rfl) (by kernel_rfl) (by kernel_rfl) (by kernel_rfl)) ?_
  intro W base args ds ps hval hA hsz hlt hfz
  have hA' := hA
  rw [Try.params6] at hA hval
  obtain ⟨v0, vs0, d0, ds0, p0, q0, hargs, rfl, rfl, h0, r0⟩ := trodAll_cons hA
  obtain ⟨v1, vs1, d1, ds1, p1, q1, rfl, rfl, rfl, h1, r1⟩ := trodAll_cons r0
  obtain ⟨v2, vs2, d2, ds2, p2, q2, rfl, rfl, rfl, h2, r2⟩ := trodAll_cons r1
  obtain ⟨rfl, rfl, rfl⟩ := trodAll_nil r2
  obtain rfl : args = #[v0, v1, v2] := by cases args; simp_all
  go_open 0 s
  have hsz_s : s.size ≤ reachBytes := by have h := sized_string hsz (j := 0) (by rw [Try.params6]; rfl) rfl; rw [Array.length_toList] at h; exact h
  go_open 1 n
  go_open 2 m
  have hr := reachBytes_lt
  have en : ∀ z : Int, 0 ≤ z → z = ((z.toNat : Nat) : Int) := fun z h => by omega
  have e0 := en n bd_n.1
  generalize hnn : n.toNat = nn at e0
  subst e0
  have e1 := en m bd_m.1
  generalize hmm : m.toNat = mm at e1
  subst e1
  refine (codeOnly_calls s nn mm W (by omega) (by omega) (by omega)).mono ?_
  rintro e W' ⟨rfl, hb⟩
  exact ⟨rfl, hb⟩

theorem proved : Rows.CodeOnlySaid :=
  OpenClaim.holds_of_wide 6 Try.f6 rfl rfl rfl rfl rfl rfl rfl ⟨rfl, rfl, rfl, rfl, rfl⟩ rfl rfl rfl rfl rfl (by kernel_rfl) Try.func6 (by kernel_rfl)
    (of_decide_eq_true (by kernel_rfl)) (by unfold Func.isWrapper; first | (rw [if_pos (by decide +kernel)]; kernel_rfl) | (rw [if_neg (by decide +kernel)]; exact ⟨rfl, rfl⟩))
    (fun os started H enc _ => lifted os started H enc)
end lawCodeOnly
end Go.Proofs.Ytjkgfjnfikcmhaa
