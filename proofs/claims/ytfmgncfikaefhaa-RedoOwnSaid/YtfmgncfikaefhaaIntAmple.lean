/- ample, stays over numbers: what they do. -/
import Derived.Test.YtfmgncfikaefhaaIntEq
import Derived.Test.YtfmgncfikaefhaaIntClone
import Derived.Test.YtfmgncfikaefhaaHeap
import Derived.Deep.OwnRows
namespace Go.Proofs.Ytfmgncfikaefhaa
open Go.RowKit Go.Lib

/-- A row of numbers l in a block of the call's own, with two numbers f behind. -/
def AmpleAt (w : World) (base g : Nat) (l : List Int) (f : Int) : Prop := w.ownsRow base 3 1 (.slice (some ⟨g, 0, none⟩) (l.length + 2) (l.length + 3)) (l.length + 2) (intVals (l ++ [f, f]))
theorem AmpleAt.after {w w' : World} {base g : Nat} {l : List Int} {f : Int} (h : AmpleAt w base g l f) (hb : Below w.heap.size w w') : AmpleAt w' base g l f := ownsRow_below h hb
theorem AmpleAt.ints {w : World} {base g : Nat} {l : List Int} {f : Int} (h : AmpleAt w base g l f) : IntsAt w (some ⟨g, 0, none⟩) l := by
  have hl := (World.ownsRow.lt h g rfl).2
  refine Or.inr ⟨g, 0, rfl, hl, fun k hk => ?_⟩
  have h1 := World.ownsRow.cellAt h k (by omega)
  rw [Nat.zero_add, h1, intVals_get (l := l ++ [f, f]) (by simp; omega)]
  rw [List.getElem_append_left hk]
theorem AmpleAt.fill {w : World} {base g : Nat} {l : List Int} {f : Int} (h : AmpleAt w base g l f) : w.cell? ⟨g, l.length, none⟩ = some (.int .i64 f) ∧ w.cell? ⟨g, l.length + 1, none⟩ = some (.int .i64 f) := by
  have h1 := World.ownsRow.cellAt h l.length (by omega)
  have h2 := World.ownsRow.cellAt h (l.length + 1) (by omega)
  rw [h1, h2, intVals_get (l := l ++ [f, f]) (by simp), intVals_get (l := l ++ [f, f]) (by simp)]
  simp

set_option maxRecDepth 20000 in
set_option maxHeartbeats 4000000 in
theorem ample_any (l : List Int) (f : Int) (ao : Option Addr) (cap : Nat) (w : World) (h : IntsAt w ao l) (hnil : ao = none → cap = 0) (hn : l.length ≤ 17592186044000) :
    Calls Try.prog 16 #[.slice ao l.length cap, .int .i64 f] w fun e w' => (∃ g, e = .returned (.slice (some ⟨g, 0, none⟩) l.length (l.length + 3)) ∧ w.heap.size ≤ g ∧ g < w'.heap.size ∧ AmpleAt w' w.heap.size g l f) ∧ Below w.heap.size w w' := by
  obtain ⟨i0, hi0, hz0, hz1, hz2⟩ := info_parts IntsM.infoI
  have H := box h
  have Hnone : Box (ao = none → l.length = 0 ∧ cap = 0) := ⟨fun e => by
    refine ⟨?_, hnil e⟩
    rcases h with h | ⟨b, off, h1, _⟩
    · rw [h]; rfl
    · rw [e] at h1; cases h1⟩
  have Hcs : Box (∀ wx, Below w.heap.size w wx → ∀ ad, ao = some ad → ∀ j u, (intVals l)[j]? = some u → wx.cell? (ad.add j) = some u) := ⟨fun wx hx ad he j u hu => by
    rcases H.out with h | ⟨b, off, h1, h2, h3⟩
    · subst h; simp [intVals] at hu
    · rw [he] at h1
      injection h1 with h1
      subst h1
      have hj : j < l.length := by have := (List.getElem?_eq_some_iff.1 hu).1; simpa [intVals] using this
      rw [intVals_get hj] at hu
      rw [← hu, Addr.add_lit]
      exact (hx.cell (p := ⟨b, off + j, none⟩) h2).trans (h3 j hj)⟩
  clear h hnil
  have w1 : IntKind.i64.wrap ((l.length : Int) + 3) = (l.length : Int) + 3 := IntWalk.i64_in _ (by omega)
  go_enter Try.func16, Try.ntmps16
  go_wp2_with (refine wpList_make_own _ rfl _ _ 40 rfl w.heap.size 3 i0 _ 1 Try.underlying40 hi0 hz0 hz1 .i64 .i64 ((l.length : Int) + 3) (l.length + 3) rfl rfl (by simp) (by rw [hz2]; omega) (by unfold maxLen; omega) (Nat.le_refl _) ?_)
  intro w2 hown hgrow
  have hb2 := (Below.refl w.heap.size w).grown hgrow (Nat.le_refl _) (by simp)
  have HB2 := box hb2
  go_wp2_with (at_builtin; go_must (refine wpList_append_fits_any _ rfl _ _ 40 rfl w.heap.size 3 i0 1 Try.underlying40 hi0 hz1 w.heap.size 0 (l.length + 3) [] rfl hown ao l.length cap (intVals l) rfl (by rw [intVals_len]; omega) Hnone.out (Hcs.out _ HB2.out) (by simp [intVals, Value.oneCell']) (by omega) ?_))
  intro w3 hown3 hgrow3
  have HB3 := box (HB2.out.grown hgrow3 hb2.size (fun j hj => by injection hj with hj; omega))
  have hs3 := HB3.out.size
  have hown4 := hown3.alloc (.cells #[.int .i64 f, .int .i64 f] 3)
  try simp only [Nat.zero_add, List.nil_append] at hown4
  clear hown hgrow hb2 hown3 hgrow3
  go_wp2_with (at_builtin; go_must (refine wpList_append_fits _ rfl _ _ 40 rfl w.heap.size 3 i0 1 Try.underlying40 hi0 hz1 w.heap.size l.length (l.length + 3) (intVals l) rfl hown4 ⟨w3.heap.size, 0, none⟩ 2 2 [.int .i64 f, .int .i64 f] rfl rfl (cells_new w3 [.int .i64 f, .int .i64 f] 3) (by simp [Value.oneCell']) (by omega) ?_))
  intro w5 hown5 hgrow5
  have HB5 := box ((HB3.out.alloc hs3 (.cells #[.int .i64 f, .int .i64 f] 3)).grown hgrow5 (by simp; omega) (fun j hj => by injection hj with hj; omega))
  have HA : Box (AmpleAt w5 w.heap.size w.heap.size l f) := ⟨by
    unfold AmpleAt
    rw [intVals_append]
    exact hown5⟩
  have hlt := (hown5.lt w.heap.size rfl).2
  clear hown4 hown5 hgrow5
  have hc1 : (l.length : Int) ≤ (l.length : Int) + 3 := by omega
  have hc2 : (l.length : Int) ≤ (l.length : Int) + 2 := by omega
  go_wp2_with fail
  go_ret
  exact ⟨⟨_, rfl, Nat.le_refl _, hlt, HA.out⟩, HB5.out⟩

set_option maxRecDepth 20000 in
set_option maxHeartbeats 4000000 in
theorem stays_any (l : List Int) (f : Int) (ao : Option Addr) (cap g base : Nat) (w : World) (h : IntsAt w ao l) (ha : AmpleAt w base g l f) (hn : l.length ≤ 17592186044000) :
    Calls Try.prog 20 #[.slice (some ⟨g, 0, none⟩) l.length (l.length + 3), .slice ao l.length cap, .int .i64 f] w fun e w' => e = .returned (.bool true) ∧ Below w.heap.size w w' := by
  have HE := box (equalInts_same l (some ⟨g, 0, none⟩) ao (l.length + 3) cap w ha.ints h (by omega))
  obtain ⟨c0, c1⟩ := ha.fill
  clear h ha
  have w1 : IntKind.i64.wrap ((l.length : Int) + 2) = (l.length : Int) + 2 := IntWalk.i64_in _ (by omega)
  have w2 : IntKind.i64.wrap ((l.length : Int) + 1) = (l.length : Int) + 1 := IntWalk.i64_in _ (by omega)
  have hc1 : (l.length : Int) + 2 ≤ (l.length : Int) + 3 := by omega
  have hc2 : (0 : Int) ≤ (l.length : Int) + 2 := by omega
  have q0 : (f == f) = true := by simp
  go_enter Try.func20, Try.ntmps20
  go_wp2_with fail
  refine HE.out.mono ?_
  rintro e w3 ⟨rfl, n3, rfl⟩
  have d0 : (w.drewN n3).cell? ⟨g, l.length, none⟩ = some (.int .i64 f) := c0
  have d1 : (w.drewN n3).cell? ⟨g, l.length + 1, none⟩ = some (.int .i64 f) := c1
  go_wp2_with fail
  go_ret
  exact ⟨rfl, (Below.refl _ _).trans ⟨rfl, rfl, rfl, Nat.le_refl _, fun _ _ => rfl⟩⟩
end Go.Proofs.Ytfmgncfikaefhaa
