/- The order that run.pairs sorts by; its sort; slices.Equal over pairs. -/
import Derived.Test.YtnnkejolfhhmlaaGreatPairC
namespace Go.Proofs.YtnnkejolfhhmlaaGreat
open Go.RowKit Go.Lib Go.Sort

theorem intsAt_blk {w : World} {b : Nat} {l : List Int} (h : Blk w b 3 (intVals l)) : IntsAt w (some ⟨b, 0, none⟩) l :=
  Or.inr ⟨b, 0, rfl, h.lt, fun k hk => by rw [Nat.zero_add]; exact h.cell (by simp [intVals, hk])⟩

set_option maxRecDepth 20000 in
set_option maxHeartbeats 2000000 in
theorem pairCmp_any (x y : PairM) (W : World) : Calls Tryz.prog 54 #[.agg #[.int .i64 x.a, .int .i64 x.i, .int .i64 x.b, .int .i64 x.k], .agg #[.int .i64 y.a, .int .i64 y.i, .int .i64 y.b, .int .i64 y.k]] W fun e w' => e = .returned (.int .i64 (PairM.cf x y)) ∧ ∃ q os', w' = grow (W.drewN q) os' := by
  obtain ⟨x0, x1, x2, x3⟩ := x
  obtain ⟨y0, y1, y2, y3⟩ := y
  have HF := box (show PairM.cf ⟨x0, x1, x2, x3⟩ ⟨y0, y1, y2, y3⟩ = lexInt [x0, x1, x2, x3] [y0, y1, y2, y3] from rfl)
  obtain ⟨r, Hr⟩ : ∃ r, Box (PairM.cf ⟨x0, x1, x2, x3⟩ ⟨y0, y1, y2, y3⟩ = r) := ⟨_, ⟨rfl⟩⟩
  rw [Hr.out] at HF ⊢
  have HW : Box (∀ p q : Obj, IntsAt ((((W.alloc p).alloc q).alloc (.cells #[.int .i64 x0, .int .i64 x1, .int .i64 x2, .int .i64 x3] 3)).alloc (.cells #[.int .i64 y0, .int .i64 y1, .int .i64 y2, .int .i64 y3] 3)) (some ⟨W.heap.size + 2, 0, none⟩) [x0, x1, x2, x3] ∧
      IntsAt ((((W.alloc p).alloc q).alloc (.cells #[.int .i64 x0, .int .i64 x1, .int .i64 x2, .int .i64 x3] 3)).alloc (.cells #[.int .i64 y0, .int .i64 y1, .int .i64 y2, .int .i64 y3] 3)) (some ⟨W.heap.size + 3, 0, none⟩) [y0, y1, y2, y3]) := ⟨fun p q => by
    have h1 := Blk.new ((W.alloc p).alloc q) (intVals [x0, x1, x2, x3]) 3
    have h2 := Blk.new (((W.alloc p).alloc q).alloc (.cells #[.int .i64 x0, .int .i64 x1, .int .i64 x2, .int .i64 x3] 3)) (intVals [y0, y1, y2, y3]) 3
    have h3 := h1.alloc (.cells #[.int .i64 y0, .int .i64 y1, .int .i64 y2, .int .i64 y3] 3)
    have e1 : ((W.alloc p).alloc q).heap.size = W.heap.size + 2 := by simp
    have e2 : (((W.alloc p).alloc q).alloc (.cells #[.int .i64 x0, .int .i64 x1, .int .i64 x2, .int .i64 x3] 3)).heap.size = W.heap.size + 3 := by simp
    rw [e1] at h3
    rw [e2] at h2
    exact ⟨intsAt_blk h3, intsAt_blk h2⟩⟩
  go_enter Tryz.func54, Tryz.ntmps54
  go_wp2_with fail
  refine (compare_ints [x0, x1, x2, x3] [y0, y1, y2, y3] _ _ 4 4 4 _ (HW.out _ _).1 (HW.out _ _).2 rfl rfl (by omega)).mono ?_
  rintro e w' ⟨rfl, rfl⟩
  rw [← HF.out]
  go_wp2_with fail
  go_ret
  exact ⟨rfl, 0, _, by rw [alloc_eq_grow, alloc_eq_grow, alloc_eq_grow, alloc_eq_grow, grow_grow, grow_grow, grow_grow]; rfl⟩

/-- What SortFunc leaves of a row of pairs. -/
theorem pairSort_any (l : List PairM) (v : Value) (base : Nat) (w : World) (ho : w.ownsRow base 81 4 v l.length (prVals l)) (hn : l.length ≤ 9000000000) :
    Calls Tryz.prog 53 #[v, .func (.func 54) #[] #[]] w fun e w' =>
      e = .returned (.tuple #[]) ∧ w'.ownsRow base 81 4 v l.length (prVals (PairM.sorted l)) ∧ w.heap.size ≤ w'.heap.size ∧ (base ≤ w.heap.size → Below base w w') := by
  rcases ho.2 with ⟨h1, h2⟩ | ⟨g, cap, cur, h1, h2, h3, h4, h5⟩
  · have hl : l = [] := List.eq_nil_of_length_eq_zero h2
    subst hl
    subst h1
    have hcon := AnyF.slices_SortFunc_none Tryz.sortPair none 0 (.func (.func 54) #[] #[]) w
    change Calls Tryz.prog 53 _ _ _ at hcon
    refine hcon.mono ?_
    rintro e w' ⟨rfl, rfl⟩
    exact ⟨rfl, by rw [show PairM.sorted [] = [] by simp [PairM.sorted]]; exact ho, Nat.le_refl _, fun _ => Below.refl _ _⟩
  · subst h1
    have hk : ∀ x, (prEnc x).length = 4 := fun _ => rfl
    have he : ∀ l : List PairM, l.flatMap prEnc = prVals l := fun l => rfl
    have eg : ∀ args w, (callFunc 54 args).run Tryz.prog w = .ok (.enter 54 args) w := enters_fn Tryz.func54 (by kernel_rfl) rfl
    have hH : HoldsK prEnc 4 w g 0 l.toArray := SortM.holds (base := base) (e := 81) (n := l.length) (cap := cap) hk (by rw [he]; exact ho)
    have hcon := AnyQ.slices_SortFunc_total Tryz.sortPair 4 Tryz.isAgg81 Tryz.sizeOf81 prEnc hk (fun x v hv => by simp [prEnc] at hv; rcases hv with rfl | rfl | rfl | rfl <;> rfl) PairM.cf PairM.swo 54 #[] g 0 cap l.toArray w eg (fun _ _ _ _ x y => pairCmp_any x y _) hH (Array.getElem?_eq_some_iff.1 h3).1 (by simp; omega) PairM.whole
    change Calls Tryz.prog 53 _ _ _ at hcon
    rw [List.size_toArray] at hcon
    refine hcon.mono ?_
    rintro e w' ⟨rfl, n, os, rfl⟩
    have hlen : (PairM.sorted l).length = l.length := (PairM.sorted_perm l).length_eq
    have hA := SortM.after (l := l) (l' := PairM.sorted l) (base := base) (e := 81) (n := l.length) (cap := cap) (g := g) (w := w) hk hlen (by rw [he]; exact ho) n os
    have hG := SortM.grown (enc := prEnc) (k := 4) (w := w) (g := g) (PairM.sorted l) n os
    rw [he] at hA
    exact ⟨rfl, hA, hG.size, fun hb => (Below.refl base w).grown hG hb (fun j hj => by injection hj with hj; omega)⟩
end Go.Proofs.YtnnkejolfhhmlaaGreat
