/- CodeBack is proved for every input: what is put is got, whatever stands behind. -/
import Derived.Test.YtjkgfjnfikcmhaaCodeLaws
namespace Go.Proofs.Ytjkgfjnfikcmhaa
open Go.RowKit Go.Lib

namespace lawCodeBack
open Go.ChangeShapes Go.WideShapes Go.ChangeAt Go.RowKit Go.ChangeMaps

set_option maxRecDepth 100000 in
theorem lifted (os : Os) (started : os.Started) (H : Type) (enc : TypeId × Value → H) :
    ReturnsInHanded {} Try.checked os 7 .any (Rows.codeBackSpec.pre6 enc Try.prog Try.f7 [] false) (Rows.codeBackSpec.post enc Try.prog Try.f7 false true false false) := by
  refine LawKit.law_lifted started (by kernel_rfl) Try.func7 rfl
    (fun ds h => by
      match ds, h with
      | [_, _, _, _], _ => rfl)
    rfl Try.underlying4 (by intro t ht; exact of_decide_eq_true (p := Try.prog.readableRec t = true ∧ t < Try.prog.types.size) (by revert t ht; decide +kernel))
    (ChangeSpec.witness6 (enc := enc) (C := Try.checked) false ⟨#[], #[.int .u64 0, .int .i64 0, .string ⟨#[]⟩, .string ⟨#[]⟩], []⟩ 8 (by kernel_rfl) (by kernel_rfl) (by kernel_rfl) (by kernel_rfl)) ?_
  intro W base args ds ps hval hA hsz hlt hfz
  have hA' := hA
  rw [Try.params7] at hA hval
  obtain ⟨v0, vs0, d0, ds0, p0, q0, hargs, rfl, rfl, h0, r0⟩ := trodAll_cons hA
  obtain ⟨v1, vs1, d1, ds1, p1, q1, rfl, rfl, rfl, h1, r1⟩ := trodAll_cons r0
  obtain ⟨v2, vs2, d2, ds2, p2, q2, rfl, rfl, rfl, h2, r2⟩ := trodAll_cons r1
  obtain ⟨v3, vs3, d3, ds3, p3, q3, rfl, rfl, rfl, h3, r3⟩ := trodAll_cons r2
  obtain ⟨rfl, rfl, rfl⟩ := trodAll_nil r3
  obtain rfl : args = #[v0, v1, v2, v3] := by cases args; simp_all
  go_open 0 n
  go_open 1 k
  go_open 2 s
  have hsz_s : s.size ≤ reachBytes := by have h := sized_string hsz (j := 2) (by rw [Try.params7]; rfl) rfl; rw [Array.length_toList] at h; exact h
  go_open 3 more
  have hsz_more : more.size ≤ reachBytes := by have h := sized_string hsz (j := 3) (by rw [Try.params7]; rfl) rfl; rw [Array.length_toList] at h; exact h
  have hr := reachBytes_lt
  have en : ∀ z : Int, 0 ≤ z → z = ((z.toNat : Nat) : Int) := fun z h => by omega
  have e0 := en n bd_n.1
  generalize hnn : n.toNat = nn at e0
  subst e0
  refine (codeBack_calls nn k s more W (by omega) bd_k.1 bd_k.2 (by omega) (by omega)).mono ?_
  rintro e W' ⟨rfl, hb⟩
  exact ⟨rfl, hb⟩

theorem proved : Rows.CodeBackSaid :=
  OpenClaim.holds_of_wide 7 Try.f7 rfl rfl rfl rfl rfl rfl rfl ⟨rfl, rfl, rfl, rfl, rfl⟩ rfl rfl rfl rfl rfl (by kernel_rfl) Try.func7 (by kernel_rfl)
    (of_decide_eq_true (by kernel_rfl)) (by unfold Func.isWrapper; first | (rw [if_pos (by decide +kernel)]; kernel_rfl) | (rw [if_neg (by decide +kernel)]; exact ⟨rfl, rfl⟩))
    (fun os started H enc _ => lifted os started H enc)
end lawCodeBack
end Go.Proofs.Ytjkgfjnfikcmhaa
