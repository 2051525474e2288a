/- ample, stays, spoil over numbers: what they do. -/
import Derived.Test.YtnolidjjeknmmaaPactK
import Derived.Deep.OwnRows
namespace Go.Proofs.Ytnolidjjeknmmaa
open Go.RowKit Go.Lib

/-- A row of numbers l in a block of the call's own, with two numbers f behind. -/
def AmpleAt (w : World) (base g : Nat) (l : List Int) (f : Int) : Prop := w.ownsRow base 3 1 (.slice (some ⟨g, 0, none⟩) (l.length + 2) (l.length + 3)) (l.length + 2) (intVals (l ++ [f, f]))
theorem AmpleAt.after {w w' : World} {base g : Nat} {l : List Int} {f : Int} (h : AmpleAt w base g l f) (hb : Below w.heap.size w w') : AmpleAt w' base g l f := ownsRow_below h hb
theorem AmpleAt.ints {w : World} {base g : Nat} {l : List Int} {f : Int} (h : AmpleAt w base g l f) : IntsAt w (some ⟨g, 0, none⟩) l := by
  have hl := (World.ownsRow.lt h g rfl).2
  refine Or.inr ⟨g, 0, rfl, hl, fun k hk => ?_⟩
  have h1 := World.ownsRow.cellAt h k (by omega)
  rw [Nat.zero_add, h1, intVals_get (l := l ++ [f, f]) (by simp; omega)]
  rw [List.getElem_append_left hk]
theorem AmpleAt.fill {w : World} {base g : Nat} {l : List Int} {f : Int} (h : AmpleAt w base g l f) : w.cell? ⟨g, l.length, none⟩ = some (.int .i64 f) ∧ w.cell? ⟨g, l.length + 1, none⟩ = some (.int .i64 f) := by
  have h1 := World.ownsRow.cellAt h l.length (by omega)
  have h2 := World.ownsRow.cellAt h (l.length + 1) (by omega)
  rw [h1, h2, intVals_get (l := l ++ [f, f]) (by simp), intVals_get (l := l ++ [f, f]) (by simp)]
  simp

set_option maxRecDepth 20000 in
set_option maxHeartbeats 4000000 in
theorem ample_any (l : List Int) (f : Int) (ao : Option Addr) (cap : Nat) (w : World) (h : IntsAt w ao l) (hnil : ao = none → cap = 0) (hn : l.length ≤ 17592186044000) :
    Calls Try.prog 20 #[.slice ao l.length cap, .int .i64 f] w fun e w' => (∃ g, e = .returned (.slice (some ⟨g, 0, none⟩) l.length (l.length + 3)) ∧ w.heap.size ≤ g ∧ g < w'.heap.size ∧ AmpleAt w' w.heap.size g l f) ∧ Below w.heap.size w w' := by
  obtain ⟨i0, hi0, hz0, hz1, hz2⟩ := info_parts IntsM.infoI
  have H := box h
  have Hnone : Box (ao = none → l.length = 0 ∧ cap = 0) := ⟨fun e => by
    refine ⟨?_, hnil e⟩
    rcases h with h | ⟨b, off, h1, _⟩
    · rw [h]; rfl
    · rw [e] at h1; cases h1⟩
  have Hcs : Box (∀ wx, Below w.heap.size w wx → ∀ ad, ao = some ad → ∀ j u, (intVals l)[j]? = some u → wx.cell? (ad.add j) = some u) := ⟨fun wx hx ad he j u hu => by
    rcases H.out with h | ⟨b, off, h1, h2, h3⟩
    · subst h; simp [intVals] at hu
    · rw [he] at h1
      injection h1 with h1
      subst h1
      have hj : j < l.length := by have := (List.getElem?_eq_some_iff.1 hu).1; simpa [intVals] using this
      rw [intVals_get hj] at hu
      rw [← hu, Addr.add_lit]
      exact (hx.cell (p := ⟨b, off + j, none⟩) h2).trans (h3 j hj)⟩
  clear h hnil
  have w1 : IntKind.i64.wrap ((l.length : Int) + 3) = (l.length : Int) + 3 := IntWalk.i64_in _ (by omega)
  go_enter Try.func20, Try.ntmps20
  go_wp2_with (refine wpList_make_own _ rfl _ _ 25 rfl w.heap.size 3 i0 _ 1 Try.underlying25 hi0 hz0 hz1 .i64 .i64 ((l.length : Int) + 3) (l.length + 3) rfl rfl (by simp) (by rw [hz2]; omega) (by unfold maxLen; omega) (Nat.le_refl _) ?_)
  intro w2 hown hgrow
  have hb2 := (Below.refl w.heap.size w).grown hgrow (Nat.le_refl _) (by simp)
  have HB2 := box hb2
  go_wp2_with (at_builtin; go_must (refine wpList_append_fits_any _ rfl _ _ 25 rfl w.heap.size 3 i0 1 Try.underlying25 hi0 hz1 w.heap.size 0 (l.length + 3) [] rfl hown ao l.length cap (intVals l) rfl (by rw [intVals_len]; omega) Hnone.out (Hcs.out _ HB2.out) (by simp [intVals, Value.oneCell']) (by omega) ?_))
  intro w3 hown3 hgrow3
  have HB3 := box (HB2.out.grown hgrow3 hb2.size (fun j hj => by injection hj with hj; omega))
  have hs3 := HB3.out.size
  have hown4 := hown3.alloc (.cells #[.int .i64 f, .int .i64 f] 3)
  try simp only [Nat.zero_add, List.nil_append] at hown4
  clear hown hgrow hb2 hown3 hgrow3
  go_wp2_with (at_builtin; go_must (refine wpList_append_fits _ rfl _ _ 25 rfl w.heap.size 3 i0 1 Try.underlying25 hi0 hz1 w.heap.size l.length (l.length + 3) (intVals l) rfl hown4 ⟨w3.heap.size, 0, none⟩ 2 2 [.int .i64 f, .int .i64 f] rfl rfl (cells_new w3 [.int .i64 f, .int .i64 f] 3) (by simp [Value.oneCell']) (by omega) ?_))
  intro w5 hown5 hgrow5
  have HB5 := box ((HB3.out.alloc hs3 (.cells #[.int .i64 f, .int .i64 f] 3)).grown hgrow5 (by simp; omega) (fun j hj => by injection hj with hj; omega))
  have HA : Box (AmpleAt w5 w.heap.size w.heap.size l f) := ⟨by
    unfold AmpleAt
    rw [intVals_append]
    exact hown5⟩
  have hlt := (hown5.lt w.heap.size rfl).2
  clear hown4 hown5 hgrow5
  have hc1 : (l.length : Int) ≤ (l.length : Int) + 3 := by omega
  have hc2 : (l.length : Int) ≤ (l.length : Int) + 2 := by omega
  go_wp2_with fail
  go_ret
  exact ⟨⟨_, rfl, Nat.le_refl _, hlt, HA.out⟩, HB5.out⟩

set_option maxRecDepth 20000 in
set_option maxHeartbeats 4000000 in
theorem stays_any (l : List Int) (f : Int) (ao : Option Addr) (cap g base : Nat) (w : World) (h : IntsAt w ao l) (ha : AmpleAt w base g l f) (hn : l.length ≤ 17592186044000) :
    Calls Try.prog 22 #[.slice (some ⟨g, 0, none⟩) l.length (l.length + 3), .slice ao l.length cap, .int .i64 f] w fun e w' => e = .returned (.bool true) ∧ Below w.heap.size w w' := by
  have HE := box (equalInts_same l (some ⟨g, 0, none⟩) ao (l.length + 3) cap w ha.ints h (by omega))
  obtain ⟨c0, c1⟩ := ha.fill
  clear h ha
  have w1 : IntKind.i64.wrap ((l.length : Int) + 2) = (l.length : Int) + 2 := IntWalk.i64_in _ (by omega)
  have w2 : IntKind.i64.wrap ((l.length : Int) + 1) = (l.length : Int) + 1 := IntWalk.i64_in _ (by omega)
  have hc1 : (l.length : Int) + 2 ≤ (l.length : Int) + 3 := by omega
  have hc2 : (0 : Int) ≤ (l.length : Int) + 2 := by omega
  have q0 : (f == f) = true := by simp
  go_enter Try.func22, Try.ntmps22
  go_wp2_with fail
  refine HE.out.mono ?_
  rintro e w3 ⟨rfl, n3, rfl⟩
  have d0 : (w.drewN n3).cell? ⟨g, l.length, none⟩ = some (.int .i64 f) := c0
  have d1 : (w.drewN n3).cell? ⟨g, l.length + 1, none⟩ = some (.int .i64 f) := c1
  go_wp2_with fail
  go_ret
  exact ⟨rfl, (Below.refl _ _).trans ⟨rfl, rfl, rfl, Nat.le_refl _, fun _ _ => rfl⟩⟩

theorem own_full {w : World} {base e g n cap : Nat} {xs : List Value} (h : w.ownsRow base e 1 (.slice (some ⟨g, 0, none⟩) n cap) n xs) : ∃ ys, w.ownsRow base e 1 (.slice (some ⟨g, 0, none⟩) cap cap) cap ys := by
  rcases h.2 with ⟨h1, _⟩ | ⟨g', cap', cur, h1, h2, h3, h4, h5, h6, h7⟩
  · cases h1
  · simp only [Value.slice.injEq, Option.some.injEq, Addr.mk.injEq, and_true, true_and] at h1
    obtain ⟨rfl, rfl⟩ := h1
    exact ⟨cur.toList, by rw [Array.length_toList]; omega, Or.inr ⟨g, cap, cur, rfl, h2, h3, Nat.le_refl _, h5, h6, List.take_of_length_le (by rw [Array.length_toList]; omega)⟩⟩

def SpoilPost (w : World) (g : Nat) (e : Ending) (w' : World) : Prop := e = .returned (.tuple #[]) ∧ w.grownBy w' (some g)
set_option maxRecDepth 20000 in
set_option maxHeartbeats 4000000 in
theorem spoil_any (base g n cap : Nat) (x : Int) (xs : List Value) (w : World) (h : w.ownsRow base 3 1 (.slice (some ⟨g, 0, none⟩) n cap) n xs) (hn : n ≤ cap) :
    Calls Try.prog 23 #[.slice (some ⟨g, 0, none⟩) n cap, .int .i64 x] w (SpoilPost w g) := by
  obtain ⟨ys, hys⟩ := own_full h
  have hcapm : cap ≤ 9223372036854775807 := by
    rcases hys.2 with ⟨h1, _⟩ | ⟨g', cap', cur, h1, h2, h3, h4, h5, h6, h7⟩
    · cases h1
    · simp only [Value.slice.injEq, Option.some.injEq, Addr.mk.injEq, and_true, true_and] at h1
      obtain ⟨rfl, _, rfl⟩ := h1
      unfold maxLen at h5
      omega
  have HY := box hys
  clear h hys
  have hc1 : (n : Int) ≤ (cap : Int) := by omega
  go_enter Try.func23, Try.ntmps23
  go_wp2_with fail
  go_loopw [11] (fun t11 wr => ∃ (k : Nat) (zs : List Value), k ≤ cap ∧ t11 = .int .i64 (k : Int) ∧ Box (wr.ownsRow base 3 1 (.slice (some ⟨g, 0, none⟩) cap cap) cap zs) ∧ Box (w.grownBy wr (some g))) (fun t11 _ => cap - (intOf t11).toNat)
  case atStart => exact ⟨0, ys, Nat.zero_le _, rfl, HY, ⟨⟨rfl, rfl, rfl, Nat.le_refl _, fun _ _ _ => rfl⟩⟩⟩
  case round =>
    obtain ⟨k, zs, hk, rfl, HZ, HG⟩ := hrel
    by_cases hlt : k < cap
    · have hz := HZ.out.cellAt k (by omega)
      have hzl := HZ.out.1
      rw [List.getElem?_eq_getElem (by omega)] at hz
      have hf := HZ.out.frozenAt k
      obtain ⟨h1, h2⟩ := HZ.out.stored k (.int .i64 x)
      have H1 := box h1
      have H2 : Box (w.grownBy (wr.setCell ⟨g, k, none⟩ (.int .i64 x)) (some g)) := ⟨⟨h2.os.trans HG.out.os, h2.tape.trans HG.out.tape, h2.output.trans HG.out.output, Nat.le_trans HG.out.size h2.size, fun j hj hne => (h2.block j (Nat.lt_of_lt_of_le hj HG.out.size) hne).trans (HG.out.block j hj hne)⟩⟩
      generalize zs[k] = z at *
      clear h1 h2 hzl
      have w1 : IntKind.i64.wrap ((k : Int) + 1) = (k : Int) + 1 := IntWalk.i64_in _ (by omega)
      go_wp2_with fail
      go_roundw
      case rel => exact ⟨k + 1, _, hlt, by go_num, H1, H2⟩
      case measure => simp [intOf]; omega
    · go_wp2_with fail
      refine bodyPost_end (by simp [results, Try.results23, go_sem]) rfl ⟨rfl, HG.out⟩
set_option maxRecDepth 20000 in
set_option maxHeartbeats 4000000 in
theorem spoil_nil (x : Int) (w : World) :
    Calls Try.prog 23 #[.slice none 0 0, .int .i64 x] w fun e w' => e = .returned (.tuple #[]) ∧ w' = w := by
  go_enter Try.func23, Try.ntmps23
  go_wp2_with fail
  refine wp_loop_rounds 1 ?_
  rw [rounds_succ]
  go_wp2_with fail
  refine bodyPost_end (by simp [results, Try.results23, go_sem]) rfl ⟨rfl, rfl⟩
end Go.Proofs.Ytnolidjjeknmmaa
