/- slices.Grow, Concat of locks; append. -/
import Derived.Test.YtgkclgmekbgjmaaLkI
import Derived.Lib.AppendZeros
import Derived.Laws.AppendOwnNone
namespace Go.Proofs.Ytgkclgmekbgjmaa
open Go.RowKit Go.Lib

def LkM.Row (l : List LkM) (w : World) (e : Ending) (w' : World) : Prop := ∃ v, e = .returned v ∧ w'.ownsRow w.heap.size 74 2 v l.length (lkVals l) ∧ Below w.heap.size w w'
/-- append(own row, blocks...), the blocks where they may. -/
theorem wpList_append_lks {w : World} {ops : Array Oper} {rest : List Oper} {o : Oper} {a : Act} {Q : Exit → Act → World → Prop} (hgd : o.guard = none) (s x : Operand)
    (ho : o.op = .call { callee := .builtin .append, args := #[s, x], argTypes := #[70, 70] }) (base : Nat) (v : Value) (l : List LkM) (hs : a.eval s = v) (hown : w.ownsRow base 74 2 v l.length (lkVals l))
    (ao : Option Addr) (m : List LkM) (cap : Nat) (hx : a.eval x = .slice ao m.length cap) (hat : LksAt w ao m) (hnil : ao = none → cap = 0) (h63 : l.length + m.length ≤ 8000000000) (hbase : base ≤ w.heap.size)
    (h : ∀ v' w', w'.ownsRow base 74 2 v' (l ++ m).length (lkVals (l ++ m)) → w.grownBy w' v.ownBlock → wpList Try.prog ops Q rest (a.put o.dst v') w') : wpList Try.prog ops Q (o :: rest) a w := by
  obtain ⟨i0, hi0, hz0, hz1, hz2⟩ := info_parts Try.infoLk
  cases ao with
  | none =>
    obtain rfl := hnil rfl
    have hfs : m = [] := hat.resolve_right (by rintro ⟨b, off, h, _⟩; simp at h)
    subst hfs
    refine wpList_append_own_none hgd s x 70 ho base 74 i0 2 Try.underlying70 hi0 v l.length (lkVals l) hs hown hx ?_
    refine h v w (by rw [List.append_nil]; exact hown) ⟨rfl, rfl, rfl, Nat.le_refl _, fun _ _ _ => rfl⟩
  | some ad =>
    have hcs : ∀ j u, (lkVals m)[j]? = some u → w.cell? (ad.add j) = some u := by
      intro j u hu
      rcases hat with rfl | ⟨b, off, h1, h2, h3⟩
      · simp [lkVals] at hu
      · simp only [Option.some.injEq] at h1
        subst h1
        have hj : j < m.length * 2 := by
          have := (List.getElem?_eq_some_iff.1 hu).1
          rwa [lkVals_len] at this
        obtain ⟨c0, c1⟩ := h3 (j / 2) (by omega)
        obtain ⟨d0, d1⟩ := lkVals_at m (j / 2) (by omega)
        rw [Addr.add_lit]
        rcases Nat.mod_two_eq_zero_or_one j with hm | hm
        · have e : j / 2 * 2 = j := by omega
          rw [e] at c0 d0
          rw [c0]; rw [d0] at hu; exact hu
        · have e : j / 2 * 2 + 1 = j := by omega
          rw [e] at d1
          have e2 : off + j / 2 * 2 + 1 = off + j := by omega
          rw [e2] at c1
          rw [c1]; rw [d1] at hu; exact hu
    refine wpList_append_own w hgd s x 70 ho base 74 i0 (.agg #[.int .i64 0, .int .i64 0]) 2 16 Try.underlying70 hi0 hz0 hz1 hz2 rfl (by decide) v l.length (lkVals l) hs hown ad m.length cap (lkVals m) hx (lkVals_len m) hcs (lkVals_one m) (by unfold maxLen; omega) (by omega) hbase ?_
    intro v' w' h1 h2 _
    refine h v' w' ?_ h2
    rw [List.length_append, lkVals_append]
    exact h1

theorem own_grownK (w : World) (base n e size : Nat) (z : Value) (hb : base ≤ w.heap.size) (hz : z.cells.size = size) (hn : n ≤ maxLen) :
    (w.drew.alloc (.cells (Builtin.zeroCells z.cells n ++ Builtin.zeroCells z.cells (grownCap w n 0 e - n)) e)).ownsRow base e size (.slice (some ⟨w.heap.size, 0, none⟩) 0 (grownCap w n 0 e)) 0 [] := by
  have hge := grownCap_ge w n 0 e
  have hcm := grownCap_le_maxLen w n 0 e hn
  refine ⟨by simp, .inr ⟨w.heap.size, _, _, rfl, hb, heap_alloc_new w.drew _, Nat.zero_le _, hcm, ?_, by simp⟩⟩
  rw [Array.size_append, size_zeroCells, size_zeroCells, hz, ← Nat.add_mul]
  congr 1
  omega
set_option maxRecDepth 20000 in
set_option maxHeartbeats 2000000 in
theorem grow_lks (n : Nat) (w : World) (hn : n ≤ 10000000000) :
    Calls Try.prog 85 #[.slice none 0 0, .int .i64 (n : Int)] w fun e w' => ∃ v, e = .returned v ∧ w'.ownsRow w.heap.size 74 2 v 0 [] ∧ Below w.heap.size w w' := by
  obtain ⟨i0, hi0, hz0, hz1, hz2⟩ := info_parts Try.infoLk
  by_cases h0 : n = 0
  · subst h0
    go_enter Try.func85, Try.ntmps85
    go_wp2_with fail
    go_ret
    exact ⟨_, rfl, World.ownsRow_nil _ _ _ _, Below.refl _ _⟩
  have happ := run_append_nil_zeros (P := Try.prog) w 70 3 70 74 i0 (.agg #[.int .i64 0, .int .i64 0]) .i64 .i64 Try.underlying70 Try.underlying3 hi0 hz0 n (by omega) (by rw [hz1]; omega) (by omega) (by rw [hz2]; omega)
  have Happ := box happ
  have HO := box (own_grownK w w.heap.size n 74 2 (.agg #[.int .i64 0, .int .i64 0]) (Nat.le_refl _) rfl (by unfold maxLen; omega))
  have HB := box ((Below.refl w.heap.size w).drew.alloc (Nat.le_refl _) (.cells (Builtin.zeroCells (Value.agg #[.int .i64 0, .int .i64 0]).cells n ++ Builtin.zeroCells (Value.agg #[.int .i64 0, .int .i64 0]).cells (grownCap w n 0 74 - n)) 74))
  have hge := grownCap_ge w n 0 74
  clear happ
  generalize w.drew.alloc (.cells (Builtin.zeroCells (Value.agg #[.int .i64 0, .int .i64 0]).cells n ++ Builtin.zeroCells (Value.agg #[.int .i64 0, .int .i64 0]).cells (grownCap w n 0 74 - n)) 74) = W at *
  generalize grownCap w n 0 74 = gc at *
  go_enter Try.func85, Try.ntmps85
  go_wp2_with (at_builtin; go_must (refine wpList_append_run _ rfl _ _ _ _ rfl _ _ rfl rfl _ _ Happ.out ?_))
  go_wp2_with fail
  go_ret
  exact ⟨_, rfl, HO.out, HB.out⟩
set_option maxRecDepth 20000 in
set_option maxHeartbeats 2000000 in
theorem concat_lks (l m : List LkM) (B : Nat) (c2 : Nat) (ao bo : Option Addr) (cap cap' : Nat) (w : World) (h0 : w.cell? ⟨B, 0, none⟩ = some (.slice ao l.length cap)) (h1 : w.cell? ⟨B, 1, none⟩ = some (.slice bo m.length cap')) (hB : B < w.heap.size)
    (h : LksAt w ao l) (h' : LksAt w bo m) (ha : ao = none → cap = 0) (hb : bo = none → cap' = 0) (hn : l.length ≤ 5000000000) (hm : m.length ≤ 5000000) :
    Calls Try.prog 33 #[.slice (some ⟨B, 0, none⟩) 2 c2] w (LkM.Row (l ++ m) w) := by
  obtain ⟨i0, hi0, hz0, hz1, hz2⟩ := info_parts Try.infoLk
  have H := box h; have H' := box h'; have HA := box ha; have HB := box hb
  clear h h' ha hb
  go_enter Try.func33, Try.ntmps33
  go_wp2_with fail
  refine wp_loop_rounds 3 ?_
  rw [rounds_succ]
  go_wp2_with fail
  rw [rounds_succ]
  go_wp2_with fail
  rw [rounds_succ]
  go_wp2_with fail
  have hg := grow_lks (l.length + m.length) w (by omega)
  rw [Int.natCast_add] at hg
  refine hg.mono ?_
  clear hg
  rintro e w1 ⟨v, rfl, hown, hb1⟩
  have HO1 := box hown; have HB1 := box hb1
  have hs1 := hb1.size
  have c0 : w1.cell? ⟨B, 0, none⟩ = some (.slice ao l.length cap) := (hb1.cell (p := ⟨B, 0, none⟩) hB).trans h0
  clear hown hb1
  go_wp2_with fail
  refine wp_loop_rounds 3 ?_
  rw [rounds_succ]
  go_wp2_with (at_builtin; go_must (refine wpList_append_lks rfl _ _ rfl w.heap.size _ [] rfl HO1.out ao l cap rfl (H.out.below HB1.out (Nat.le_refl _)) HA.out (by simp; omega) hs1 ?_))
  intro v2 w2 hown2 hgrow2
  have HB2 := box (HB1.out.grown hgrow2 hs1 (fun j hj => (HO1.out.lt j hj).1))
  have HO2 := box hown2
  have hs2 := HB2.out.size
  have c1 : w2.cell? ⟨B, 1, none⟩ = some (.slice bo m.length cap') := (HB2.out.cell (p := ⟨B, 1, none⟩) hB).trans h1
  clear hown2 hgrow2 c0
  go_wp2_with fail
  rw [rounds_succ]
  go_wp2_with (at_builtin; go_must (refine wpList_append_lks rfl _ _ rfl w.heap.size _ l rfl HO2.out bo m cap' rfl (H'.out.below HB2.out (Nat.le_refl _)) HB.out (by omega) hs2 ?_))
  intro v3 w3 hown3 hgrow3
  have HB3 := box (HB2.out.grown hgrow3 hs2 (fun j hj => (HO2.out.lt j hj).1))
  have HO3 := box hown3
  clear hown3 hgrow3 c1
  go_wp2_with fail
  rw [rounds_succ]
  go_wp2_with fail
  go_ret
  refine ⟨_, rfl, ?_, HB3.out⟩
  rw [List.length_append]
  exact HO3.out
end Go.Proofs.Ytgkclgmekbgjmaa
