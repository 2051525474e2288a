/- buddy.Free. -/
import Derived.Test.YtfmgncfikaefhaaBudF
import Derived.Lib.AppendZeros
namespace Go.Proofs.Ytfmgncfikaefhaa
open Go.RowKit Go.Lib

/-- What Free hands back. -/
def BudM.FreePost (n : Int) (T : List BkM) (w : World) (e : Ending) (w' : World) : Prop :=
  Below w.heap.size w w' ∧
    ((BudM.check n T ≠ 0 ∧ e = .returned (.tuple #[.slice none 0 0, .int .i64 (BudM.check n T)])) ∨
     (BudM.check n T = 0 ∧ ∃ v, e = .returned (.tuple #[v, .int .i64 0]) ∧ w'.ownsRow w.heap.size 73 2 v (BudM.free n.toNat T 0).length (bkVals (BudM.free n.toNat T 0))))

set_option maxRecDepth 20000 in
set_option maxHeartbeats 2000000 in
theorem budFree_any (n : Int) (T : List BkM) (ao : Option Addr) (cap : Nat) (w : World) (h : BksAt w ao T) (hT : T.length ≤ 9000000000000) :
    Calls Try.prog 32 #[.agg #[.int .i64 n, .slice ao T.length cap]] w (BudM.FreePost n T w) := by
  have H := box h
  clear h
  go_enter Try.func32, Try.ntmps32
  go_wp2_with fail
  have HA := box ((Below.refl w.heap.size w).alloc (Nat.le_refl _) (.cells #[.int .i64 n, .slice ao T.length cap] 69))
  refine (budCheck_any n T ao cap _ (H.out.below HA.out (Nat.le_refl _)) (by omega)).mono ?_
  rintro e w1 ⟨rfl, hb1⟩
  have HB1 := box (HA.out.trans (hb1.mono (by simp)))
  have HK1 := box ((Blk.new w [.int .i64 n, .slice ao T.length cap] 69).after hb1)
  have hs1 := HB1.out.size
  have x0 := HK1.out.cell (i := 0) rfl
  have x1 := HK1.out.cell (i := 1) rfl
  clear hb1
  obtain ⟨c, HC⟩ : ∃ c, Box (BudM.check n T = c) := ⟨_, ⟨rfl⟩⟩
  rw [HC.out]
  by_cases h0 : c = 0
  case neg =>
    have g1 : (c == 0) = false := by simp [h0]
    have g2 : (c != 0) = true := by simp [h0]
    have H0 := box h0; clear h0
    go_wp2_with fail
    refine bodyPost_ret (v := .tuple #[.slice none 0 0, .int .i64 c]) (by simp [results, Try.results32, go_sem]) rfl ⟨HB1.out, Or.inl ⟨?_, ?_⟩⟩
    · rw [HC.out]; exact H0.out
    · rw [HC.out]
  subst h0
  obtain ⟨m, rfl, hm, hf, hpw⟩ := BudM.check_ok HC.out
  have hT2 : T.length ≤ 5000000000 := by
    have h1 := BudM.sorted_len T 0 (fun x hx => ⟨hf x hx, (hf x hx).2.2.1⟩) hpw (by have := BudM.pow_pos m; omega)
    have h2 := BudM.pow_hi hm
    omega
  clear hpw
  have Hf := box hf
  clear hf
  have HN : Box (∀ x ∈ T, BudM.Near x) := ⟨fun x hx => by
    obtain ⟨h1, h2, h3, _, h5⟩ := Hf.out x hx
    have := BudM.pow_pos x.ord.toNat
    have := BudM.pow_hi hm
    exact ⟨h1, by omega, h3, by omega⟩⟩
  go_wp2_with fail
  refine (budfree_any m T 0 ao cap w1 (H.out.below HB1.out (Nat.le_refl _)) hT2 HN.out (Int.le_refl _) (by have := BudM.pow_hi hm; omega) hm).mono ?_
  rintro e w2 ⟨v, rfl, hown, hb2⟩
  have HO := box (ownsRow_mono hown hs1)
  have HB2 := box (HB1.out.trans (hb2.mono hs1))
  clear hown hb2
  go_wp2_with fail
  refine bodyPost_ret (v := .tuple #[v, .int .i64 0]) (by simp [results, Try.results32, go_sem]) rfl ⟨HB2.out, Or.inr ⟨HC.out, v, rfl, ?_⟩⟩
  have e1 : ((m : Int)).toNat = m := by omega
  rw [e1]
  exact HO.out

end Go.Proofs.Ytfmgncfikaefhaa
