/- buddy.Free; slices.Grow, Concat, Equal of blocks. -/
import Derived.Test.YtlmibgjflgkalaaBudF
import Derived.Lib.AppendZeros
namespace Go.Proofs.Ytlmibgjflgkalaa
open Go.RowKit Go.Lib

/-- What Free hands back. -/
def BudM.FreePost (n : Int) (T : List BkM) (w : World) (e : Ending) (w' : World) : Prop :=
  Below w.heap.size w w' ∧
    ((BudM.check n T ≠ 0 ∧ e = .returned (.tuple #[.slice none 0 0, .int .i64 (BudM.check n T)])) ∨
     (BudM.check n T = 0 ∧ ∃ v, e = .returned (.tuple #[v, .int .i64 0]) ∧ w'.ownsRow w.heap.size 29 2 v (BudM.free n.toNat T 0).length (bkVals (BudM.free n.toNat T 0))))

set_option maxRecDepth 20000 in
set_option maxHeartbeats 2000000 in
theorem budFree_any (n : Int) (T : List BkM) (ao : Option Addr) (cap : Nat) (w : World) (h : BksAt w ao T) (hT : T.length ≤ 9000000000000) :
    Calls Try.prog 13 #[.agg #[.int .i64 n, .slice ao T.length cap]] w (BudM.FreePost n T w) := by
  have H := box h
  clear h
  go_enter Try.func13, Try.ntmps13
  go_wp2_with fail
  have HA := box ((Below.refl w.heap.size w).alloc (Nat.le_refl _) (.cells #[.int .i64 n, .slice ao T.length cap] 24))
  refine (budCheck_any n T ao cap _ (H.out.below HA.out (Nat.le_refl _)) (by omega)).mono ?_
  rintro e w1 ⟨rfl, hb1⟩
  have HB1 := box (HA.out.trans (hb1.mono (by simp)))
  have HK1 := box ((Blk.new w [.int .i64 n, .slice ao T.length cap] 24).after hb1)
  have hs1 := HB1.out.size
  have x0 := HK1.out.cell (i := 0) rfl
  have x1 := HK1.out.cell (i := 1) rfl
  clear hb1
  obtain ⟨c, HC⟩ : ∃ c, Box (BudM.check n T = c) := ⟨_, ⟨rfl⟩⟩
  rw [HC.out]
  by_cases h0 : c = 0
  case neg =>
    have g1 : (c == 0) = false := by simp [h0]
    have g2 : (c != 0) = true := by simp [h0]
    have H0 := box h0; clear h0
    go_wp2_with fail
    refine bodyPost_ret (v := .tuple #[.slice none 0 0, .int .i64 c]) (by simp [results, Try.results13, go_sem]) rfl ⟨HB1.out, Or.inl ⟨?_, ?_⟩⟩
    · rw [HC.out]; exact H0.out
    · rw [HC.out]
  subst h0
  obtain ⟨m, rfl, hm, hf, hpw⟩ := BudM.check_ok HC.out
  have hT2 : T.length ≤ 5000000000 := by
    have h1 := BudM.sorted_len T 0 (fun x hx => ⟨hf x hx, (hf x hx).2.2.1⟩) hpw (by have := BudM.pow_pos m; omega)
    have h2 := BudM.pow_hi hm
    omega
  clear hpw
  have Hf := box hf
  clear hf
  have HN : Box (∀ x ∈ T, BudM.Near x) := ⟨fun x hx => by
    obtain ⟨h1, h2, h3, _, h5⟩ := Hf.out x hx
    have := BudM.pow_pos x.ord.toNat
    have := BudM.pow_hi hm
    exact ⟨h1, by omega, h3, by omega⟩⟩
  go_wp2_with fail
  refine (budfree_any m T 0 ao cap w1 (H.out.below HB1.out (Nat.le_refl _)) hT2 HN.out (Int.le_refl _) (by have := BudM.pow_hi hm; omega) hm).mono ?_
  rintro e w2 ⟨v, rfl, hown, hb2⟩
  have HO := box (ownsRow_mono hown hs1)
  have HB2 := box (HB1.out.trans (hb2.mono hs1))
  clear hown hb2
  go_wp2_with fail
  refine bodyPost_ret (v := .tuple #[v, .int .i64 0]) (by simp [results, Try.results13, go_sem]) rfl ⟨HB2.out, Or.inr ⟨HC.out, v, rfl, ?_⟩⟩
  have e1 : ((m : Int)).toNat = m := by omega
  rw [e1]
  exact HO.out

theorem own_grown (w : World) (base n e size : Nat) (z : Value) (hb : base ≤ w.heap.size) (hz : z.cells.size = size) (hn : n ≤ maxLen) :
    (w.drew.alloc (.cells (Builtin.zeroCells z.cells n ++ Builtin.zeroCells z.cells (grownCap w n 0 e - n)) e)).ownsRow base e size (.slice (some ⟨w.heap.size, 0, none⟩) 0 (grownCap w n 0 e)) 0 [] := by
  have hge := grownCap_ge w n 0 e
  have hcm := grownCap_le_maxLen w n 0 e hn
  refine ⟨by simp, .inr ⟨w.heap.size, _, _, rfl, hb, heap_alloc_new w.drew _, Nat.zero_le _, hcm, ?_, by simp⟩⟩
  rw [Array.size_append, size_zeroCells, size_zeroCells, hz, ← Nat.add_mul]
  congr 1
  omega
set_option maxRecDepth 20000 in
set_option maxHeartbeats 2000000 in
theorem grow_bks (n : Nat) (w : World) (hn : n ≤ 10000000000) :
    Calls Try.prog 49 #[.slice none 0 0, .int .i64 (n : Int)] w fun e w' => ∃ v, e = .returned v ∧ w'.ownsRow w.heap.size 29 2 v 0 [] ∧ Below w.heap.size w w' := by
  obtain ⟨i0, hi0, hz0, hz1, hz2⟩ := info_parts Try.infoBk
  by_cases h0 : n = 0
  · subst h0
    go_enter Try.func49, Try.ntmps49
    go_wp2_with fail
    go_ret
    exact ⟨_, rfl, World.ownsRow_nil _ _ _ _, Below.refl _ _⟩
  have happ := run_append_nil_zeros (P := Try.prog) w 22 3 22 29 i0 (.agg #[.int .i64 0, .int .i64 0]) .i64 .i64 Try.underlying22 Try.underlying3 hi0 hz0 n (by omega) (by rw [hz1]; omega) (by omega) (by rw [hz2]; omega)
  have Happ := box happ
  have HO := box (own_grown w w.heap.size n 29 2 (.agg #[.int .i64 0, .int .i64 0]) (Nat.le_refl _) rfl (by unfold maxLen; omega))
  have HB := box ((Below.refl w.heap.size w).drew.alloc (Nat.le_refl _) (.cells (Builtin.zeroCells (Value.agg #[.int .i64 0, .int .i64 0]).cells n ++ Builtin.zeroCells (Value.agg #[.int .i64 0, .int .i64 0]).cells (grownCap w n 0 29 - n)) 29))
  have hge := grownCap_ge w n 0 29
  clear happ
  generalize w.drew.alloc (.cells (Builtin.zeroCells (Value.agg #[.int .i64 0, .int .i64 0]).cells n ++ Builtin.zeroCells (Value.agg #[.int .i64 0, .int .i64 0]).cells (grownCap w n 0 29 - n)) 29) = W at *
  generalize grownCap w n 0 29 = gc at *
  go_enter Try.func49, Try.ntmps49
  go_wp2_with (at_builtin; go_must (refine wpList_append_run _ rfl _ _ _ _ rfl _ _ rfl rfl _ _ Happ.out ?_))
  go_wp2_with fail
  go_ret
  exact ⟨_, rfl, HO.out, HB.out⟩
end Go.Proofs.Ytlmibgjflgkalaa
