/- ample, stays, spoil, slices.Clone, slices.Equal over slots: what they do. -/
import Derived.Test.YtnolidjjeknmmaaLeafEq
import Derived.Test.YtnolidjjeknmmaaLeafPut
import Derived.Test.YtnolidjjeknmmaaHeap
import Derived.Test.YtnolidjjeknmmaaIntClone
import Derived.Deep.OwnRows
import Derived.Deep.RegionHeld3
import Derived.Deep.RegionLaw
import Derived.Deep.QuietTactic
import Derived.BigQuiet
namespace Go.Proofs.Ytnolidjjeknmmaa
open Go.RowKit Go.Lib

/-- append within the capacity, whatever is appended, as a step of a region that draws. -/
theorem step_fits_any {P : Program} {w : World} {ops : Array Oper} {o : Oper} {a : Act} {K : Act → World → Prop} {Q : Exit → Act → World → Prop} {E : Prop} (hg : o.guard = none) (s x : Operand) (t : TypeId) (hop : o.op = Op.call { callee := Callee.builtin Builtin.append, args := #[s, x], argTypes := #[t, t] })
    (base : Nat) (e : TypeId) (i : TypeInfo) (size : Nat) (h1 : P.underlying t = some (.slice e)) (h2 : P.info? e = some i) (h4 : i.size = size)
    (g k cap : Nat) (xs : List Value) (hs : a.eval s = .slice (some ⟨g, 0, none⟩) k cap) (hown : w.ownsRow base e size (.slice (some ⟨g, 0, none⟩) k cap) k xs) (ao : Option Addr) (m c : Nat) (news : List Value) (hx : a.eval x = .slice ao m c) (hn : news.length = m * size)
    (hnone : ao = none → m = 0 ∧ c = 0) (hc : ∀ ad, ao = some ad → ∀ j u, news[j]? = some u → w.cell? (ad.add j) = some u) (h1c : ∀ u ∈ news, u.oneCell' = true) (b1 : k + m ≤ cap)
    (hK : ∀ w', w'.ownsRow base e size (.slice (some ⟨g, 0, none⟩) (k + m) cap) (k + m) (xs ++ news) → w.grownBy w' (some g) → K (a.put o.dst (.slice (some ⟨g, 0, none⟩) (k + m) cap)) w') :
    if Region.wanted o (yielded ops a.tmps) = true then Oper.wp P o a w K Q else E := by
  have hw : Region.wanted o (yielded ops a.tmps) = true := by simp [Region.wanted, hg]
  rw [if_pos hw]
  cases ao with
  | some ad =>
    obtain ⟨w', hrun, r1, r2⟩ := run_append_fits (P := P) w base t o.type e i size h1 h2 h4 g k cap xs hown ad m c news hn (hc ad rfl) h1c b1
    unfold Oper.wp
    simp [execOp, hop, resolve, invoke, builtin, hs, hx, hrun, Result.andThen]
    exact hK _ r1 r2
  | none =>
    obtain ⟨rfl, rfl⟩ := hnone rfl
    have hnews : news = [] := List.eq_nil_of_length_eq_zero (by simpa using hn)
    subst hnews
    have hrun := run_append_owned_none (P := P) w base t o.type e i size h1 h2 _ k xs hown
    unfold Oper.wp
    simp [execOp, hop, resolve, invoke, builtin, hs, hx, hrun, Result.andThen]
    have h9 := hK w (by simpa using hown) (World.grownBy.refl _ _)
    simp only [Nat.add_zero] at h9
    exact h9

/-- A row of slots ls in a block of the call's own, with two slots f behind. -/
def SlotAmple (w : World) (base g : Nat) (ls : List (Bool × ByteArray)) (f : Bool × ByteArray) : Prop := w.ownsRow base 54 2 (.slice (some ⟨g, 0, none⟩) (ls.length + 2) (ls.length + 3)) (ls.length + 2) (LeafM.cells (ls ++ [f, f]))
theorem SlotAmple.after {w w' : World} {base g : Nat} {ls : List (Bool × ByteArray)} {f : Bool × ByteArray} (h : SlotAmple w base g ls f) (hb : Below w.heap.size w w') : SlotAmple w' base g ls f := ownsRow_below h hb
theorem SlotAmple.slots {w : World} {base g : Nat} {ls : List (Bool × ByteArray)} {f : Bool × ByteArray} (h : SlotAmple w base g ls f) : SlotsAt w g 0 ls := by
  have h1 := LeafM.owns_slots h (by simp)
  intro k hk
  have := h1 k (by simp; omega)
  rw [List.getElem_append_left hk] at this
  exact this
theorem SlotAmple.at_ {w : World} {base g : Nat} {ls : List (Bool × ByteArray)} {f : Bool × ByteArray} (h : SlotAmple w base g ls f) : LeafM.At w (some ⟨g, 0, none⟩) ls := Or.inr ⟨g, 0, rfl, (World.ownsRow.lt h g rfl).2, h.slots⟩
theorem SlotAmple.fill {w : World} {base g : Nat} {ls : List (Bool × ByteArray)} {f : Bool × ByteArray} (h : SlotAmple w base g ls f) :
    w.cell? ⟨g, ls.length * 2, none⟩ = some (.bool f.1) ∧ w.cell? ⟨g, ls.length * 2 + 1, none⟩ = some (.string f.2) ∧ w.cell? ⟨g, (ls.length + 1) * 2, none⟩ = some (.bool f.1) ∧ w.cell? ⟨g, (ls.length + 1) * 2 + 1, none⟩ = some (.string f.2) := by
  have h1 := LeafM.owns_slots h (by simp)
  have a := h1 ls.length (by simp)
  have b := h1 (ls.length + 1) (by simp)
  simp only [Nat.zero_add] at a b
  simp at a b
  exact ⟨a.1, a.2, b.1, b.2⟩

theorem SlotAmple.run_make (n : Nat) (hn : n ≤ 5864062014900) (wx : World) :
    (Instr.makeSlice 48 (.int .i64 0) (.int .i64 ((n : Int) + 3))).run Try.prog wx = .ok (.slice (some ⟨wx.heap.size, 0, none⟩) 0 (n + 3)) (wx.alloc (.cells (madeCells #[.bool false, .string { data := #[] }] ((n + 3) * 2)) 54)) := by
  obtain ⟨i, hi, hzz⟩ := Option.map_eq_some_iff.1 Try.infoSlot
  simp only [Prod.mk.injEq] at hzz
  obtain ⟨hz, hs, hb⟩ := hzz
  have hr := Go.run_make (P := Try.prog) wx 48 54 i _ Try.underlying48 hi hz .i64 .i64 0 (n + 3) (Int.le_refl _) (by omega) (by rw [hb]; omega) (by omega)
  have e : ((n : Int) + 3).toNat = n + 3 := by omega
  rw [e, hs] at hr
  exact hr

theorem Blk.cells_of {w : World} {b t : Nat} {C : List Value} (h : Blk w b t C) : ∀ ad, some (⟨b, 0, none⟩ : Addr) = some ad → ∀ j u, C[j]? = some u → w.cell? (ad.add j) = some u := by
  rintro ad e j u hu
  injection e with e
  subst e
  rw [Addr.add_lit, Nat.zero_add]
  exact h.cell hu

/-- What ample leaves. -/
def AmplePost (w : World) (ls : List (Bool × ByteArray)) (f : Bool × ByteArray) (v : Value) (wx : World) : Prop :=
  ∃ g, v = .slice (some ⟨g, 0, none⟩) (ls.length + 2) (ls.length + 3) ∧ w.heap.size ≤ g ∧ g < wx.heap.size ∧ SlotAmple wx w.heap.size g ls f ∧ Below w.heap.size w wx

set_option maxRecDepth 20000 in
set_option maxHeartbeats 4000000 in
theorem ampleSlots_any (ls : List (Bool × ByteArray)) (f : Bool × ByteArray) (ao : Option Addr) (cap : Nat) (w : World) (h : LeafM.At w ao ls) (hnil : ao = none → cap = 0) (hn : ls.length ≤ 5864062014900) :
    Calls Try.prog 28 #[.slice ao ls.length cap, .agg #[.bool f.1, .string f.2]] w fun e w' => (∃ g, e = .returned (.slice (some ⟨g, 0, none⟩) ls.length (ls.length + 3)) ∧ w.heap.size ≤ g ∧ g < w'.heap.size ∧ SlotAmple w' w.heap.size g ls f) ∧ Below w.heap.size w w' := by
  obtain ⟨i0, hi0, hz0, hz1, hz2⟩ := info_parts Try.infoSlot
  have Hnone : Box (ao = none → ls.length = 0 ∧ cap = 0) := ⟨fun e => by
    refine ⟨?_, hnil e⟩
    rcases h with h | ⟨b, off, h1, _⟩
    · rw [h]; rfl
    · rw [e] at h1; cases h1⟩
  have Hcs : Box (∀ wx, Below w.heap.size w wx → ∀ ad, ao = some ad → ∀ j u, (LeafM.cells ls)[j]? = some u → wx.cell? (ad.add j) = some u) := ⟨fun wx hx ad he j u hu => by
    rcases h with h | ⟨b, off, h1, h2, h3⟩
    · subst h; simp [LeafM.cells] at hu
    · rw [he] at h1
      injection h1 with h1
      subst h1
      exact LeafM.slots_cells (h3.below hx h2) j u hu⟩
  clear h hnil
  have w1 : IntKind.i64.wrap ((ls.length : Int) + 3) = (ls.length : Int) + 3 := IntWalk.i64_in _ (by omega)
  have hmk := SlotAmple.run_make ls.length hn
  have HM : Box (∀ wx : World, w.heap.size ≤ wx.heap.size → (wx.alloc (.cells (madeCells #[.bool false, .string { data := #[] }] ((ls.length + 3) * 2)) 54)).ownsRow w.heap.size 54 2 (.slice (some ⟨wx.heap.size, 0, none⟩) 0 (ls.length + 3)) 0 []) := ⟨fun wx hx => World.ownsRow_made wx _ _ hx (by unfold maxLen; omega) (by simp [madeCells])⟩
  go_enter Try.func28, Try.ntmps28
  go_upto_region 1 with (fail)
  refine name_world (fun W => Below w.heap.size w W ∧ w.heap.size < W.heap.size ∧ Blk W w.heap.size 54 [.bool f.1, .string f.2]) ⟨(Below.refl _ _).alloc (Nat.le_refl _) _, by simp, Blk.new _ _ _⟩ ?_
  rintro W ⟨hbW, hsW, hB3⟩
  have HBW := box hbW; have HB3 := box hB3
  obtain ⟨B3, HBe⟩ : ∃ x, Box (w.heap.size = x) := ⟨_, ⟨rfl⟩⟩
  rw [HBe.out] at hB3 hsW HM Hcs HB3 ⊢
  have y0 := hB3.cell (i := 0) rfl
  have y1 := hB3.cell (i := 1) rfl
  clear hbW hB3
  go_cut [5] (fun t5 wx => AmplePost w ls f t5 wx)
  case first =>
    have Hcs : Box (∀ wx, Below W.heap.size W wx → ∀ ad, ao = some ad → ∀ j u, (LeafM.cells ls)[j]? = some u → wx.cell? (ad.add j) = some u) := ⟨fun wx hx => Hcs.out wx (by rw [← HBe.out]; exact below_tr HBW.out hx)⟩
    have HM1 : Box (∀ (wx : World) (g : Nat), B3 ≤ wx.heap.size → wx.heap.size = g → (wx.alloc (.cells (madeCells #[.bool false, .string { data := #[] }] ((ls.length + 3) * 2)) 54)).ownsRow B3 54 2 (.slice (some ⟨g, 0, none⟩) 0 (ls.length + 3)) 0 []) := ⟨fun wx g h e => by rw [← e]; exact HM.out wx h⟩
    have Hend : Box (∀ g w3, B3 ≤ g → w3.ownsRow B3 54 2 (.slice (some ⟨g, 0, none⟩) (ls.length + 2) (ls.length + 3)) (ls.length + 2) (LeafM.cells ls ++ [.bool f.1, .string f.2, .bool f.1, .string f.2]) → Below W.heap.size W w3 → AmplePost w ls f (.slice (some ⟨g, 0, none⟩) (ls.length + 2) (ls.length + 3)) w3) := ⟨fun g w3 hg ho hb => by
      refine ⟨g, rfl, by rw [HBe.out]; exact hg, (ho.lt g rfl).2, ?_, below_tr HBW.out hb⟩
      unfold SlotAmple
      rw [HBe.out]
      have e : LeafM.cells (ls ++ [f, f]) = LeafM.cells ls ++ [.bool f.1, .string f.2, .bool f.1, .string f.2] := by simp [LeafM.cells]
      rw [e]; exact ho⟩
    go_region_law? (first
      | (refine step_fits_any rfl (.tmp 9) (.tmp 10) 48 rfl B3 54 i0 2 Try.underlying48 hi0 hz1 (W.heap.size) 0 (ls.length + 3) [] (by first | (simp [Act.eval, Act.put]; done) | exact hNOPE) (by first | exact HM.out _ (Nat.le_trans (Nat.le_of_lt hsW) (Below.size (w := W) (B := W.heap.size) (by (repeat (first | exact HW2.out | exact Below.refl _ _ | refine Below.drew ?_ | refine Below.alloc ?_ (by first | omega | (simp; omega) | simp) _))))) | exact (HM.out _ (Nat.le_trans (Nat.le_of_lt hsW) (Below.size (w := W) (B := W.heap.size) (by (repeat (first | exact HW2.out | exact Below.refl _ _ | refine Below.drew ?_ | refine Below.alloc ?_ (by first | omega | (simp; omega) | simp) _)))))).alloc _ | exact HM1.out _ _ (Nat.le_trans (Nat.le_of_lt hsW) (Below.size (w := W) (B := W.heap.size) (by (repeat (first | exact HW2.out | exact Below.refl _ _ | refine Below.drew ?_ | refine Below.alloc ?_ (by first | omega | (simp; omega) | simp) _))))) (by first | rfl | simp)) ao ls.length cap (LeafM.cells ls) (by first | (simp [Act.eval, Act.put]; done) | exact hNOPE) (LeafM.cells_len ls) Hnone.out (Hcs.out _ (by (repeat (first | exact HW2.out | exact Below.refl _ _ | refine Below.drew ?_ | refine Below.alloc ?_ (by first | omega | (simp; omega) | simp) _)))) (LeafM.cells_one ls) (by omega) ?_; intro w2 hown2 hgrow2; have HW2 : Box (Below W.heap.size W w2) := ⟨Below.grown (by (repeat (first | exact HW2.out | exact Below.refl _ _ | refine Below.drew ?_ | refine Below.alloc ?_ (by first | omega | (simp; omega) | simp) _))) hgrow2 (Below.size (w := W) (B := W.heap.size) (by (repeat (first | exact HW2.out | exact Below.refl _ _ | refine Below.drew ?_ | refine Below.alloc ?_ (by first | omega | (simp; omega) | simp) _)))) (fun j hj => by injection hj with hj; omega)⟩; have hB2 := HB3.out.after HW2.out; have c0 := hB2.cell (i := 0) rfl; have c1 := hB2.cell (i := 1) rfl; have hs2 := HW2.out.size; (try (have HF2 : Box (Blk w2 (W.heap.size + 1) 54 [.bool f.1, .string f.2, .bool f.1, .string f.2]) := ⟨Blk.grown (by first | exact (Blk.new' (by first | rfl | simp | (simp; rfl)) _ _) | exact (Blk.new' (by first | rfl | simp | (simp; rfl)) _ _).drew) hgrow2 (by simp)⟩)); simp only [Nat.zero_add, List.nil_append] at hown2 ⊢; have HO2 := box hown2; clear hown2 hgrow2 hB2)
      | (refine step_fits_any rfl (.tmp 9) (.tmp 10) 48 rfl B3 54 i0 2 Try.underlying48 hi0 hz1 (W.heap.size + 1) 0 (ls.length + 3) [] (by first | (simp [Act.eval, Act.put]; done) | exact hNOPE) (by first | exact HM.out _ (Nat.le_trans (Nat.le_of_lt hsW) (Below.size (w := W) (B := W.heap.size) (by (repeat (first | exact HW2.out | exact Below.refl _ _ | refine Below.drew ?_ | refine Below.alloc ?_ (by first | omega | (simp; omega) | simp) _))))) | exact (HM.out _ (Nat.le_trans (Nat.le_of_lt hsW) (Below.size (w := W) (B := W.heap.size) (by (repeat (first | exact HW2.out | exact Below.refl _ _ | refine Below.drew ?_ | refine Below.alloc ?_ (by first | omega | (simp; omega) | simp) _)))))).alloc _ | exact HM1.out _ _ (Nat.le_trans (Nat.le_of_lt hsW) (Below.size (w := W) (B := W.heap.size) (by (repeat (first | exact HW2.out | exact Below.refl _ _ | refine Below.drew ?_ | refine Below.alloc ?_ (by first | omega | (simp; omega) | simp) _))))) (by first | rfl | simp)) ao ls.length cap (LeafM.cells ls) (by first | (simp [Act.eval, Act.put]; done) | exact hNOPE) (LeafM.cells_len ls) Hnone.out (Hcs.out _ (by (repeat (first | exact HW2.out | exact Below.refl _ _ | refine Below.drew ?_ | refine Below.alloc ?_ (by first | omega | (simp; omega) | simp) _)))) (LeafM.cells_one ls) (by omega) ?_; intro w2 hown2 hgrow2; have HW2 : Box (Below W.heap.size W w2) := ⟨Below.grown (by (repeat (first | exact HW2.out | exact Below.refl _ _ | refine Below.drew ?_ | refine Below.alloc ?_ (by first | omega | (simp; omega) | simp) _))) hgrow2 (Below.size (w := W) (B := W.heap.size) (by (repeat (first | exact HW2.out | exact Below.refl _ _ | refine Below.drew ?_ | refine Below.alloc ?_ (by first | omega | (simp; omega) | simp) _)))) (fun j hj => by injection hj with hj; omega)⟩; have hB2 := HB3.out.after HW2.out; have c0 := hB2.cell (i := 0) rfl; have c1 := hB2.cell (i := 1) rfl; have hs2 := HW2.out.size; (try (have HF2 : Box (Blk w2 W.heap.size 54 [.bool f.1, .string f.2, .bool f.1, .string f.2]) := ⟨Blk.grown (by first | exact (Blk.new' (by first | rfl | simp | (simp; rfl)) _ _).alloc _ | exact ((Blk.new' (by first | rfl | simp | (simp; rfl)) _ _).alloc _).drew) hgrow2 (by simp)⟩)); simp only [Nat.zero_add, List.nil_append] at hown2 ⊢; have HO2 := box hown2; clear hown2 hgrow2 hB2)
      | (refine step_fits_any rfl (.tmp 11) (.tmp 14) 48 rfl B3 54 i0 2 Try.underlying48 hi0 hz1 (W.heap.size) ls.length (ls.length + 3) (LeafM.cells ls) (by first | (simp [Act.eval, Act.put]; done) | exact hNOPE) (by first | exact HO2.out | exact HO2.out.alloc _) (some ⟨W.heap.size + 1, 0, none⟩) 2 2 [.bool f.1, .string f.2, .bool f.1, .string f.2] (by first | (simp [Act.eval, Act.put]; done) | exact hNOPE) rfl (by simp) (Blk.cells_of (by first | exact HF2.out | exact Blk.new _ _ _)) (by simp [Value.oneCell']) (by omega) ?_; intro w3 hown3 hgrow3; have HW3 : Box (Below W.heap.size W w3) := ⟨Below.grown (by (repeat (first | exact HW2.out | exact Below.refl _ _ | refine Below.drew ?_ | refine Below.alloc ?_ (by first | omega | (simp; omega) | simp) _))) hgrow3 (Below.size (w := W) (B := W.heap.size) (by (repeat (first | exact HW2.out | exact Below.refl _ _ | refine Below.drew ?_ | refine Below.alloc ?_ (by first | omega | (simp; omega) | simp) _)))) (fun j hj => by injection hj with hj; omega)⟩; have HR : Box (AmplePost w ls f (.slice (some ⟨W.heap.size, 0, none⟩) (ls.length + 2) (ls.length + 3)) w3) := ⟨Hend.out _ _ (by omega) hown3 HW3.out⟩; clear hown3 hgrow3)
      | (refine step_fits_any rfl (.tmp 11) (.tmp 14) 48 rfl B3 54 i0 2 Try.underlying48 hi0 hz1 (W.heap.size) ls.length (ls.length + 3) (LeafM.cells ls) (by first | (simp [Act.eval, Act.put]; done) | exact hNOPE) (by first | exact HO2.out | exact HO2.out.alloc _) (some ⟨w2.heap.size, 0, none⟩) 2 2 [.bool f.1, .string f.2, .bool f.1, .string f.2] (by first | (simp [Act.eval, Act.put]; done) | exact hNOPE) rfl (by simp) (Blk.cells_of (by first | exact HF2.out | exact Blk.new _ _ _)) (by simp [Value.oneCell']) (by omega) ?_; intro w3 hown3 hgrow3; have HW3 : Box (Below W.heap.size W w3) := ⟨Below.grown (by (repeat (first | exact HW2.out | exact Below.refl _ _ | refine Below.drew ?_ | refine Below.alloc ?_ (by first | omega | (simp; omega) | simp) _))) hgrow3 (Below.size (w := W) (B := W.heap.size) (by (repeat (first | exact HW2.out | exact Below.refl _ _ | refine Below.drew ?_ | refine Below.alloc ?_ (by first | omega | (simp; omega) | simp) _)))) (fun j hj => by injection hj with hj; omega)⟩; have HR : Box (AmplePost w ls f (.slice (some ⟨W.heap.size, 0, none⟩) (ls.length + 2) (ls.length + 3)) w3) := ⟨Hend.out _ _ (by omega) hown3 HW3.out⟩; clear hown3 hgrow3)
      | (refine step_fits_any rfl (.tmp 11) (.tmp 14) 48 rfl B3 54 i0 2 Try.underlying48 hi0 hz1 (W.heap.size + 1) ls.length (ls.length + 3) (LeafM.cells ls) (by first | (simp [Act.eval, Act.put]; done) | exact hNOPE) (by first | exact HO2.out | exact HO2.out.alloc _) (some ⟨W.heap.size, 0, none⟩) 2 2 [.bool f.1, .string f.2, .bool f.1, .string f.2] (by first | (simp [Act.eval, Act.put]; done) | exact hNOPE) rfl (by simp) (Blk.cells_of (by first | exact HF2.out | exact Blk.new _ _ _)) (by simp [Value.oneCell']) (by omega) ?_; intro w3 hown3 hgrow3; have HW3 : Box (Below W.heap.size W w3) := ⟨Below.grown (by (repeat (first | exact HW2.out | exact Below.refl _ _ | refine Below.drew ?_ | refine Below.alloc ?_ (by first | omega | (simp; omega) | simp) _))) hgrow3 (Below.size (w := W) (B := W.heap.size) (by (repeat (first | exact HW2.out | exact Below.refl _ _ | refine Below.drew ?_ | refine Below.alloc ?_ (by first | omega | (simp; omega) | simp) _)))) (fun j hj => by injection hj with hj; omega)⟩; have HR : Box (AmplePost w ls f (.slice (some ⟨W.heap.size + 1, 0, none⟩) (ls.length + 2) (ls.length + 3)) w3) := ⟨Hend.out _ _ (by omega) hown3 HW3.out⟩; clear hown3 hgrow3)
      | fail)
    all_goals
      go_step
      go_step
      go_meet
      exact HR.out
  case rest =>
  obtain ⟨g, rfl, hg1, hg2, hA, hbw⟩ := hcut
  have HA := box hA; have HB := box hbw
  clear hA hbw
  have hc1 : (ls.length : Int) ≤ (ls.length : Int) + 3 := by omega
  have hc2 : (ls.length : Int) ≤ (ls.length : Int) + 2 := by omega
  go_wp2_with fail
  go_ret
  exact ⟨⟨_, rfl, hg1, hg2, HA.out⟩, HB.out⟩
end Go.Proofs.Ytnolidjjeknmmaa
