/- The sort of order.Deps. -/
import Derived.Test.YtgkclgmekbgjmaaDepC
import Derived.Test.YtgkclgmekbgjmaaSortOwn
import Derived.Test.YtgkclgmekbgjmaaShDp
namespace Go.Proofs.Ytgkclgmekbgjmaa
open Go.RowKit Go.Lib Go.Sort

/-- What SortFunc leaves of a row of dependencies. -/
theorem depSort_any (l : List DepM) (v : Value) (base : Nat) (w : World) (ho : w.ownsRow base 106 3 v l.length (dpVals l)) (hn : l.length ≤ 9000000000) :
    Calls Try.prog 96 #[v, .func (.func 97) #[] #[]] w fun e w' =>
      e = .returned (.tuple #[]) ∧ w'.ownsRow base 106 3 v l.length (dpVals (DepM.sorted l)) ∧ w.heap.size ≤ w'.heap.size ∧ (base ≤ w.heap.size → Below base w w') ∧ (∀ b t C, t ≠ 106 → Blk w b t C → Blk w' b t C) := by
  rcases ho.2 with ⟨h1, h2⟩ | ⟨g, cap, cur, h1, h2, h3, h4, h5⟩
  · have hl : l = [] := List.eq_nil_of_length_eq_zero h2
    subst hl
    subst h1
    have hcon := AnyF.slices_SortFunc_none Try.sortDep none 0 (.func (.func 97) #[] #[]) w
    change Calls Try.prog 96 _ _ _ at hcon
    refine hcon.mono ?_
    rintro e w' ⟨rfl, rfl⟩
    exact ⟨rfl, by rw [show DepM.sorted [] = [] by simp [DepM.sorted]]; exact ho, Nat.le_refl _, fun _ => Below.refl _ _, fun _ _ _ _ h => h⟩
  · have HO := ho
    subst h1
    have hk : ∀ x, (dpEnc x).length = 3 := fun _ => rfl
    have he : ∀ l : List DepM, l.flatMap dpEnc = dpVals l := fun l => rfl
    have eg : ∀ args w, (callFunc 97 args).run Try.prog w = .ok (.enter 97 args) w := enters_fn Try.func97 (by kernel_rfl) rfl
    have hH : HoldsK dpEnc 3 w g 0 l.toArray := SortM.holds (base := base) (e := 106) (n := l.length) (cap := cap) hk (by rw [he]; exact ho)
    have hcon := AnyQ.slices_SortFunc_total Try.sortDep 3 Try.isAgg106 Try.sizeOf106 dpEnc hk (fun x v hv => by simp [dpEnc] at hv; rcases hv with rfl | rfl | rfl <;> rfl) DepM.cf DepM.swo 97 #[] g 0 cap l.toArray w eg (fun _ _ _ _ x y => depCmp_any x y _) hH (Array.getElem?_eq_some_iff.1 h3).1 (by simp; omega) DepM.whole
    change Calls Try.prog 96 _ _ _ at hcon
    rw [List.size_toArray] at hcon
    refine hcon.mono ?_
    rintro e w' ⟨rfl, n, os, rfl⟩
    have hlen : (DepM.sorted l).length = l.length := (DepM.sorted_perm l).length_eq
    have hA := SortM.after (l := l) (l' := DepM.sorted l) (base := base) (e := 106) (n := l.length) (cap := cap) (g := g) (w := w) hk hlen (by rw [he]; exact ho) n os
    have hG := SortM.grown (enc := dpEnc) (k := 3) (w := w) (g := g) (DepM.sorted l) n os
    rw [he] at hA
    exact ⟨rfl, hA, hG.size, fun hb => (Below.refl base w).grown hG hb (fun j hj => by injection hj with hj; omega), fun b t C ht hB => hB.grown hG (hB.ne_own HO ht)⟩
end Go.Proofs.Ytgkclgmekbgjmaa
