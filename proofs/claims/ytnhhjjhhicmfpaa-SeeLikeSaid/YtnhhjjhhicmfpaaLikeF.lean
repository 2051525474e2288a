/- run.Like: what one transaction does, out of a run. -/
import Derived.Test.YtnhhjjhhicmfpaaLikeM
import Derived.Test.YtnhhjjhhicmfpaaOpDel
import Derived.Test.YtnhhjjhhicmfpaaOpClone
import Derived.Test.YtnhhjjhhicmfpaaOpEq
namespace Go.Proofs.Ytnhhjjhhicmfpaa
open Go.RowKit Go.Lib

set_option maxRecDepth 20000 in
set_option maxHeartbeats 2000000 in
theorem like_f (o : OpM) (t K : Nat) (W : World) (h : Blk W K 3 [.int .i64 (t : Int)]) :
    Calls Try.prog 39 #[.agg #[.int .i64 o.tx, .int .i64 o.kind, .int .i64 o.item], .pointer (some ⟨K, 0, none⟩)] W fun e w' => e = .returned (.bool (!(o.tx == (t : Int)))) ∧ Below W.heap.size W w' := by
  obtain ⟨a0, a1, a2⟩ := o
  have k0 := h.cell (i := 0) rfl
  have s0 := h.lt
  clear h
  have q0 : (a0 != (t : Int)) = !(a0 == (t : Int)) := rfl
  have HB := box ((Below.refl W.heap.size W).alloc (Nat.le_refl _) (.cells #[.int .i64 a0, .int .i64 a1, .int .i64 a2] 25))
  generalize h0 : (a0 == (t : Int)) = c0 at *
  go_enter Try.func39, Try.ntmps39
  go_wp2_with fail
  go_ret
  exact ⟨rfl, HB.out⟩

theorem likeDel_any (l : List OpM) (t K : Nat) (v : Value) (w w1 : World) (hK : Blk w K 3 [.int .i64 (t : Int)]) (hl : l.length ≤ 200) (hb : Below w.heap.size w w1) (h : w1.ownsRow w.heap.size 25 3 v l.length (opVals l)) :
    Calls Try.prog 41 #[v, .func (.func 39) #[] #[.pointer (some ⟨K, 0, none⟩)]] w1 fun e w2 => ∃ v', e = .returned v' ∧ w2.ownsRow w.heap.size 25 3 v' (RunM.of l t).length (opVals (RunM.of l t)) ∧ Below w.heap.size w w2 := by
  have hT : OpTurns w.heap.size 39 #[.pointer (some ⟨K, 0, none⟩)] (fun o => !(o.tx == (t : Int))) l v (fun _ W => Below w.heap.size w W) := by
    refine ⟨fun j hj W hI _ => ?_, fun j W o hI => hI.alloc hI.size o, fun j W b i u hI hv => hI.setCell (p := ⟨b, i, none⟩) (h.lt b hv).1 u⟩
    have := like_f l[j] t K W (hK.below hI hK.lt)
    refine this.mono ?_
    rintro e w' ⟨rfl, hb'⟩
    exact ⟨rfl, below_tr hI hb', hb'.size, fun b _ h2 => hb'.block b h2⟩
  refine (deleteFunc_opsT l v w.heap.size 39 #[.pointer (some ⟨K, 0, none⟩)] _ (fun _ W => Below w.heap.size w W) w1 h (by omega) hb hT (enters_fn Try.func39 (by kernel_rfl) rfl)).mono ?_
  rintro e w2 ⟨v', rfl, _, ho, hI, _⟩
  have e1 : (l.filter fun x => !!(x.tx == (t : Int))) = RunM.of l t := by
    unfold RunM.of; congr 1; funext x; simp
  rw [e1] at ho
  exact ⟨v', rfl, ho, hI⟩
end Go.Proofs.Ytnhhjjhhicmfpaa
