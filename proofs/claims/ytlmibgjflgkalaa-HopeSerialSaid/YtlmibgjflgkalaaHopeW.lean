/- hope.Check, hope.meet: what they answer; slices.Concat of numbers. -/
import Derived.Test.YtlmibgjflgkalaaHopeM
import Derived.Test.YtlmibgjflgkalaaIntIdx
import Derived.Test.YtlmibgjflgkalaaIntCF
import Derived.Lib.AppendZeros
import Derived.Deep.DeepMust
import Derived.Deep.QuietTactic
import Derived.BigQuiet
namespace Go.Proofs.Ytlmibgjflgkalaa
open Go.RowKit Go.Lib

/-- A try with the places of its lists. -/
structure TryL where
  t : TryM
  ra : Option Addr
  rc : Nat
  wa : Option Addr
  wc : Nat
  deriving Inhabited
structure TryL.Sl (w : World) (x : TryL) : Prop where
  rd : IntsAt w x.ra x.t.rd
  wr : IntsAt w x.wa x.t.wr
  rn : x.ra = none → x.rc = 0
  wn : x.wa = none → x.wc = 0
theorem TryL.Sl.below {B : Nat} {w w' : World} {x : TryL} (h : x.Sl w) (hb : Below B w w') (hB : w.heap.size ≤ B) : x.Sl w' :=
  ⟨h.rd.below hb hB, h.wr.below hb hB, h.rn, h.wn⟩
def TryL.cells (x : TryL) : List Value := [.int .i64 x.t.st, .int .i64 x.t.en, .slice x.ra x.t.rd.length x.rc, .slice x.wa x.t.wr.length x.wc]
structure TriesAt (w : World) (ao : Option Addr) (L : List TryL) : Prop where
  sl : ∀ x ∈ L, x.Sl w
  row : L = [] ∨ ∃ b off, ao = some ⟨b, off, none⟩ ∧ b < w.heap.size ∧ ∀ k (h : k < L.length), w.cell? ⟨b, off + k * 4, none⟩ = some (.int .i64 L[k].t.st) ∧ w.cell? ⟨b, off + k * 4 + 1, none⟩ = some (.int .i64 L[k].t.en) ∧
    w.cell? ⟨b, off + k * 4 + 2, none⟩ = some (.slice L[k].ra L[k].t.rd.length L[k].rc) ∧ w.cell? ⟨b, off + k * 4 + 3, none⟩ = some (.slice L[k].wa L[k].t.wr.length L[k].wc)
theorem TriesAt.below {B : Nat} {w w' : World} {ao : Option Addr} {L : List TryL} (h : TriesAt w ao L) (hb : Below B w w') (hB : w.heap.size ≤ B) : TriesAt w' ao L := by
  refine ⟨fun x hx => (h.sl x hx).below hb hB, ?_⟩
  rcases h.row with h | ⟨b, off, h1, h2, h3⟩
  · exact Or.inl h
  · refine Or.inr ⟨b, off, h1, Nat.lt_of_lt_of_le h2 hb.size, fun k hk => ?_⟩
    obtain ⟨c0, c1, c2, c3⟩ := h3 k hk
    have hl := Nat.lt_of_lt_of_le h2 hB
    exact ⟨(hb.cell (p := ⟨b, off + k * 4, none⟩) hl).trans c0, (hb.cell (p := ⟨b, off + k * 4 + 1, none⟩) hl).trans c1, (hb.cell (p := ⟨b, off + k * 4 + 2, none⟩) hl).trans c2, (hb.cell (p := ⟨b, off + k * 4 + 3, none⟩) hl).trans c3⟩
def TryL.plain (L : List TryL) : List TryM := L.map TryL.t
theorem TryL.plain_len (L : List TryL) : (TryL.plain L).length = L.length := by simp [TryL.plain]
theorem TryL.plain_get (L : List TryL) {k : Nat} (h : k < L.length) : (TryL.plain L)[k]'(by rw [TryL.plain_len]; exact h) = L[k].t := by simp [TryL.plain]
theorem hope_dN {B : Nat} {a w : World} (h : Below B a w) (n : Nat) : Below B a (w.drewN n) := h.trans ⟨rfl, rfl, rfl, Nat.le_refl _, fun _ _ => rfl⟩

theorem HopeM.infoI : (Try.prog.info? 3).map (fun i => (i.zero, i.size, i.bytes)) = some (some (.int .i64 0), 1, 8) := by kernel_rfl
theorem own_grown1 (w : World) (base n e : Nat) (z : Value) (hb : base ≤ w.heap.size) (hz : z.cells.size = 1) (hn : n ≤ maxLen) :
    (w.drew.alloc (.cells (Builtin.zeroCells z.cells n ++ Builtin.zeroCells z.cells (grownCap w n 0 e - n)) e)).ownsRow base e 1 (.slice (some ⟨w.heap.size, 0, none⟩) 0 (grownCap w n 0 e)) 0 [] := by
  have hge := grownCap_ge w n 0 e
  have hcm := grownCap_le_maxLen w n 0 e hn
  refine ⟨by simp, .inr ⟨w.heap.size, _, _, rfl, hb, heap_alloc_new w.drew _, Nat.zero_le _, hcm, ?_, by simp⟩⟩
  rw [Array.size_append, size_zeroCells, size_zeroCells, hz, ← Nat.add_mul]
  congr 1
  omega
set_option maxRecDepth 20000 in
set_option maxHeartbeats 2000000 in
theorem grow_ints (n : Nat) (w : World) (hn : n ≤ 10000000000) :
    Calls Try.prog 72 #[.slice none 0 0, .int .i64 (n : Int)] w fun e w' => ∃ v, e = .returned v ∧ w'.ownsRow w.heap.size 3 1 v 0 [] ∧ Below w.heap.size w w' := by
  obtain ⟨i0, hi0, hz0, hz1, hz2⟩ := info_parts HopeM.infoI
  by_cases h0 : n = 0
  · subst h0
    go_enter Try.func72, Try.ntmps72
    go_wp2_with fail
    go_ret
    exact ⟨_, rfl, World.ownsRow_nil _ _ _ _, Below.refl _ _⟩
  have happ := run_append_nil_zeros (P := Try.prog) w 31 3 31 3 i0 (.int .i64 0) .i64 .i64 Try.underlying31 Try.underlying3 hi0 hz0 n (by omega) (by rw [hz1]; omega) (by omega) (by rw [hz2]; omega)
  have Happ := box happ
  have HO := box (own_grown1 w w.heap.size n 3 (.int .i64 0) (Nat.le_refl _) rfl (by unfold maxLen; omega))
  have HB := box ((Below.refl w.heap.size w).drew.alloc (Nat.le_refl _) (.cells (Builtin.zeroCells (Value.int .i64 0).cells n ++ Builtin.zeroCells (Value.int .i64 0).cells (grownCap w n 0 3 - n)) 3))
  have hge := grownCap_ge w n 0 3
  clear happ
  generalize w.drew.alloc (.cells (Builtin.zeroCells (Value.int .i64 0).cells n ++ Builtin.zeroCells (Value.int .i64 0).cells (grownCap w n 0 3 - n)) 3) = W at *
  generalize grownCap w n 0 3 = gc at *
  go_enter Try.func72, Try.ntmps72
  go_wp2_with (at_builtin; go_must (refine wpList_append_run _ rfl _ _ _ _ rfl _ _ rfl rfl _ _ Happ.out ?_))
  go_wp2_with fail
  go_ret
  exact ⟨_, rfl, HO.out, HB.out⟩

/-- append(own row, numbers...), the numbers where they may. -/
theorem wpList_append_ints {w : World} {ops : Array Oper} {rest : List Oper} {o : Oper} {a : Act} {Q : Exit → Act → World → Prop} (hgd : o.guard = none) (s x : Operand)
    (ho : o.op = .call { callee := .builtin .append, args := #[s, x], argTypes := #[31, 31] }) (base : Nat) (v : Value) (l : List Int) (hs : a.eval s = v) (hown : w.ownsRow base 3 1 v l.length (intVals l))
    (ao : Option Addr) (m : List Int) (cap : Nat) (hx : a.eval x = .slice ao m.length cap) (hat : IntsAt w ao m) (hnil : ao = none → cap = 0) (h63 : l.length + m.length ≤ 8000000000) (hbase : base ≤ w.heap.size)
    (h : ∀ v' w', w'.ownsRow base 3 1 v' (l ++ m).length (intVals (l ++ m)) → w.grownBy w' v.ownBlock → wpList Try.prog ops Q rest (a.put o.dst v') w') : wpList Try.prog ops Q (o :: rest) a w := by
  obtain ⟨i0, hi0, hz0, hz1, hz2⟩ := info_parts HopeM.infoI
  cases ao with
  | none =>
    obtain rfl := hnil rfl
    have hfs : m = [] := hat.resolve_right (by rintro ⟨b, off, h, _⟩; simp at h)
    subst hfs
    refine wpList_append_own_none hgd s x 31 ho base 3 i0 1 Try.underlying31 hi0 v l.length (intVals l) hs hown hx ?_
    refine h v w (by rw [List.append_nil]; exact hown) ⟨rfl, rfl, rfl, Nat.le_refl _, fun _ _ _ => rfl⟩
  | some ad =>
    have hcs : ∀ j u, (intVals m)[j]? = some u → w.cell? (ad.add j) = some u := by
      intro j u hu
      rcases hat with rfl | ⟨b, off, h1, h2, h3⟩
      · simp [intVals] at hu
      · simp only [Option.some.injEq] at h1
        subst h1
        have hj : j < m.length := by
          have := (List.getElem?_eq_some_iff.1 hu).1
          rwa [intVals_len] at this
        rw [intVals_get hj] at hu
        rw [← hu, Addr.add_lit]
        exact h3 j hj
    refine wpList_append_own w hgd s x 31 ho base 3 i0 (.int .i64 0) 1 8 Try.underlying31 hi0 hz0 hz1 hz2 rfl (by decide) v l.length (intVals l) hs hown ad m.length cap (intVals m) hx (by rw [intVals_len]; omega) hcs (by simp [intVals, Value.oneCell']) (by unfold maxLen; omega) (by omega) hbase ?_
    intro v' w' h1 h2 _
    refine h v' w' ?_ h2
    rw [List.length_append, intVals_append]
    exact h1

set_option maxRecDepth 20000 in
set_option maxHeartbeats 2000000 in
theorem concat_ints (l m : List Int) (B : Nat) (c2 : Nat) (ao bo : Option Addr) (cap cap' : Nat) (w : World) (h0 : w.cell? ⟨B, 0, none⟩ = some (.slice ao l.length cap)) (h1 : w.cell? ⟨B, 1, none⟩ = some (.slice bo m.length cap')) (hB : B < w.heap.size)
    (h : IntsAt w ao l) (h' : IntsAt w bo m) (ha : ao = none → cap = 0) (hb : bo = none → cap' = 0) (hn : l.length ≤ 5000000000) (hm : m.length ≤ 5000000) :
    Calls Try.prog 62 #[.slice (some ⟨B, 0, none⟩) 2 c2] w fun e w' => (∃ v, e = .returned v ∧ w'.ownsRow w.heap.size 3 1 v (l ++ m).length (intVals (l ++ m))) ∧ Below w.heap.size w w' := by
  obtain ⟨i0, hi0, hz0, hz1, hz2⟩ := info_parts HopeM.infoI
  have H := box h; have H' := box h'; have HA := box ha; have HB := box hb
  clear h h' ha hb
  go_enter Try.func62, Try.ntmps62
  go_wp2_with fail
  refine wp_loop_rounds 3 ?_
  rw [rounds_succ]
  go_wp2_with fail
  rw [rounds_succ]
  go_wp2_with fail
  rw [rounds_succ]
  go_wp2_with fail
  have hg := grow_ints (l.length + m.length) w (by omega)
  rw [Int.natCast_add] at hg
  refine hg.mono ?_
  clear hg
  rintro e w1 ⟨v, rfl, hown, hb1⟩
  have HO1 := box hown; have HB1 := box hb1
  have hs1 := hb1.size
  have c0 : w1.cell? ⟨B, 0, none⟩ = some (.slice ao l.length cap) := (hb1.cell (p := ⟨B, 0, none⟩) hB).trans h0
  clear hown hb1
  go_wp2_with fail
  refine wp_loop_rounds 3 ?_
  rw [rounds_succ]
  go_wp2_with (at_builtin; go_must (refine wpList_append_ints rfl _ _ rfl w.heap.size _ [] rfl HO1.out ao l cap rfl (H.out.below HB1.out (Nat.le_refl _)) HA.out (by simp; omega) hs1 ?_))
  intro v2 w2 hown2 hgrow2
  have HB2 := box (HB1.out.grown hgrow2 hs1 (fun j hj => (HO1.out.lt j hj).1))
  have HO2 := box hown2
  have hs2 := HB2.out.size
  have c1 : w2.cell? ⟨B, 1, none⟩ = some (.slice bo m.length cap') := (HB2.out.cell (p := ⟨B, 1, none⟩) hB).trans h1
  clear hown2 hgrow2 c0
  go_wp2_with fail
  rw [rounds_succ]
  go_wp2_with (at_builtin; go_must (refine wpList_append_ints rfl _ _ rfl w.heap.size _ l rfl HO2.out bo m cap' rfl (H'.out.below HB2.out (Nat.le_refl _)) HB.out (by omega) hs2 ?_))
  intro v3 w3 hown3 hgrow3
  have HB3 := box (HB2.out.grown hgrow3 hs2 (fun j hj => (HO2.out.lt j hj).1))
  have HO3 := box hown3
  clear hown3 hgrow3 c1
  go_wp2_with fail
  rw [rounds_succ]
  go_wp2_with fail
  go_ret
  refine ⟨⟨_, rfl, ?_⟩, HB3.out⟩
  rw [List.length_append]
  exact HO3.out
end Go.Proofs.Ytlmibgjflgkalaa
