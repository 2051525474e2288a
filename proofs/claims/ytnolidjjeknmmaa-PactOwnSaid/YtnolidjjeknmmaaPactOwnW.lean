/- PactOwn: the contracts beside the law: Step's answer as one value for all worlds, SamePact, spoil at any own row. -/
import Derived.Test.YtnolidjjeknmmaaIntAmple
import Derived.Test.YtnolidjjeknmmaaPactS
import Derived.Test.YtnolidjjeknmmaaPactN
namespace Go.Proofs.Ytnolidjjeknmmaa
open Go.RowKit Go.Lib

theorem IntsAt.ofRow {w : World} {base n cap : Nat} {ao : Option Addr} {l : List Int} (h : w.ownsRow base 3 1 (.slice ao n cap) n (intVals l)) : IntsAt w ao l := by
  have h0 := h
  rcases h.2 with ⟨h1, h2⟩ | ⟨g', cap', cur, h1, h2, h3, h4, h5, h6, h7⟩
  · left
    have h3 : (intVals l).length = 0 := by
      rw [h.1]
      simpa using h2
    exact List.eq_nil_of_length_eq_zero (by simpa [intVals] using h3)
  · simp only [Value.slice.injEq, true_and] at h1
    obtain ⟨rfl, rfl⟩ := h1
    exact IntsAt.ofOwn h0

/-- An answer of Step that lies in memory of the call's own. -/
structure PactGot (w : World) (base : Nat) (s : PactSt) (ao : Option Addr) (vc : Nat) (bo : Option Addr) (pc : Nat) : Prop where
  votes : w.ownsRow base 3 1 (.slice ao s.votes.length vc) s.votes.length (intVals s.votes)
  parts : w.ownsRow base 3 1 (.slice bo s.parts.length pc) s.parts.length (intVals s.parts)
  ne : (Value.slice bo s.parts.length pc).ownBlock = none ∨ (Value.slice bo s.parts.length pc).ownBlock ≠ (Value.slice ao s.votes.length vc).ownBlock
theorem PactGot.after {w w' : World} {base : Nat} {s : PactSt} {ao bo : Option Addr} {vc pc : Nat} (h : PactGot w base s ao vc bo pc) (hb : Below w.heap.size w w') : PactGot w' base s ao vc bo pc := ⟨ownsRow_below h.votes hb, ownsRow_below h.parts hb, h.ne⟩
theorem PactGot.alloc {w : World} {base : Nat} {s : PactSt} {ao bo : Option Addr} {vc pc : Nat} (h : PactGot w base s ao vc bo pc) (o : Obj) : PactGot (w.alloc o) base s ao vc bo pc := ⟨h.votes.alloc o, h.parts.alloc o, h.ne⟩
theorem PactGot.grown {w w' : World} {base g : Nat} {s : PactSt} {ao bo : Option Addr} {vc pc : Nat} (h : PactGot w base s ao vc bo pc) (hg : w.grownBy w' (some g)) (hb : g < base) : PactGot w' base s ao vc bo pc := by
  refine ⟨h.votes.kept hg (Or.inr fun e => ?_), h.parts.kept hg (Or.inr fun e => ?_), h.ne⟩
  · have := (h.votes.lt g e).1; omega
  · have := (h.parts.lt g e).1; omega

theorem step_got (s : PactSt) (kind who by_ : Int) : ∃ s2 : PactSt, s2.votes.length ≤ 8 ∧ s2.parts.length ≤ 8 ∧ ∀ (vo po : Option Addr) (vc pc : Nat) (w : World) (_ : IntsAt w vo s.votes) (_ : IntsAt w po s.parts),
    Calls Try.prog 14 #[.agg #[.int .i64 s.lead, .slice vo s.votes.length vc, .slice po s.parts.length pc], .agg #[.int .i64 kind, .int .i64 who, .int .i64 by_]] w fun e w' => (∃ ao vc' bo pc' c, e = .returned (.tuple #[.agg #[.int .i64 s2.lead, .slice ao s2.votes.length vc', .slice bo s2.parts.length pc'], .int .i64 c]) ∧ PactGot w' w.heap.size s2 ao vc' bo pc') ∧ Below w.heap.size w w' := by
  by_cases hc : PactM.Can s kind who by_
  · have hl := PactM.step_len s kind who.toNat by_.toNat
    refine ⟨PactM.step s kind who.toNat by_.toNat, by have := hc.good.n8; have := hc.good.vl; omega, by have := hc.good.n8; omega, fun vo po vc pc w hv hp => (pactStep_any s kind who by_ vo po vc pc w hv hp).mono ?_⟩
    rintro e w' ⟨h1, h2⟩
    rcases h1 with ⟨_, v, rfl, hout⟩ | ⟨h3, _⟩
    · obtain ⟨gv, vc', gp, pc', rfl, hne, h3, h4⟩ := hout.is
      exact ⟨⟨_, _, _, _, _, rfl, h3, h4, Or.inr (by simp [Value.ownBlock]; exact fun e => hne e.symm)⟩, h2⟩
    · exact absurd hc h3
  · refine ⟨⟨0, [], []⟩, by simp, by simp, fun vo po vc pc w hv hp => (pactStep_any s kind who by_ vo po vc pc w hv hp).mono ?_⟩
    rintro e w' ⟨h1, h2⟩
    rcases h1 with ⟨h3, _⟩ | ⟨_, c, _, rfl⟩
    · exact absurd h3 hc
    · exact ⟨⟨none, 0, none, 0, c, rfl, World.ownsRow_nil _ _ _ _, World.ownsRow_nil _ _ _ _, Or.inl rfl⟩, h2⟩

theorem spoil_row (base n cap : Nat) (ao : Option Addr) (x : Int) (xs : List Value) (w : World) (h : w.ownsRow base 3 1 (.slice ao n cap) n xs) :
    Calls Try.prog 23 #[.slice ao n cap, .int .i64 x] w fun e w' => e = .returned (.tuple #[]) ∧ w.grownBy w' (Value.slice ao n cap).ownBlock := by
  have h0 := h
  rcases h.2 with ⟨h1, h2⟩ | ⟨g', cap', cur, h1, h2, h3, h4, h5, h6, h7⟩
  · simp only [Value.slice.injEq] at h1
    obtain ⟨rfl, rfl, rfl⟩ := h1
    refine (spoil_nil x w).mono ?_
    rintro e w' ⟨rfl, rfl⟩
    exact ⟨rfl, rfl, rfl, rfl, Nat.le_refl _, fun _ _ _ => rfl⟩
  · simp only [Value.slice.injEq, true_and] at h1
    obtain ⟨rfl, rfl⟩ := h1
    exact spoil_any base g' n cap x xs w h0 (by omega)

set_option maxRecDepth 20000 in
set_option maxHeartbeats 4000000 in
theorem samePact_same (s : PactSt) (ao bo ao' bo' : Option Addr) (vc pc vc' pc' : Nat) (w : World) (h1 : IntsAt w ao s.votes) (h2 : IntsAt w bo s.parts) (h3 : IntsAt w ao' s.votes) (h4 : IntsAt w bo' s.parts) (hn : s.votes.length ≤ 8) (hm : s.parts.length ≤ 8) :
    Calls Try.prog 24 #[.agg #[.int .i64 s.lead, .slice ao s.votes.length vc, .slice bo s.parts.length pc], .agg #[.int .i64 s.lead, .slice ao' s.votes.length vc', .slice bo' s.parts.length pc']] w fun e w' => e = .returned (.bool true) ∧ Below w.heap.size w w' := by
  have H1 := box (fun wx (hb : Below w.heap.size w wx) => equalInts_same s.votes ao ao' vc vc' wx (h1.below hb (Nat.le_refl _)) (h3.below hb (Nat.le_refl _)) (by omega))
  have H2 := box (fun wx (hb : Below w.heap.size w wx) => equalInts_same s.parts bo bo' pc pc' wx (h2.below hb (Nat.le_refl _)) (h4.below hb (Nat.le_refl _)) (by omega))
  clear h1 h2 h3 h4
  generalize s.votes.length = n at *
  generalize s.parts.length = m at *
  generalize s.lead = lead at *
  have q0 : (lead == lead) = true := by simp
  go_enter Try.func24, Try.ntmps24
  go_upto_region 1 with (fail)
  obtain ⟨Ba, HBa⟩ : ∃ x, Box (w.heap.size = x) := ⟨_, ⟨rfl⟩⟩
  obtain ⟨Bb, HBb⟩ : ∃ x, Box (w.heap.size + 1 = x) := ⟨_, ⟨rfl⟩⟩
  refine name_world (fun W => Below w.heap.size w W ∧ Blk W w.heap.size 27 [.int .i64 lead, .slice ao n vc, .slice bo m pc] ∧ Blk W (w.heap.size + 1) 27 [.int .i64 lead, .slice ao' n vc', .slice bo' m pc'])
    ⟨((Below.refl _ _).alloc (Nat.le_refl _) _).alloc (by simp) _, (Blk.new _ _ _).alloc _, Blk.new' (by simp) _ _⟩ ?_
  rintro W ⟨hbW, hpW, hqW⟩
  have HBW := box hbW
  rw [HBb.out] at hqW ⊢
  rw [HBa.out] at hpW ⊢
  have HP := box hpW; have HQ := box hqW
  have x0 := hpW.cell (i := 0) rfl
  have x1 := hpW.cell (i := 1) rfl
  have x2 := hpW.cell (i := 2) rfl
  have y0 := hqW.cell (i := 0) rfl
  have y1 := hqW.cell (i := 1) rfl
  have y2 := hqW.cell (i := 2) rfl
  clear hbW hpW hqW
  go_wp2_with fail
  refine (H1.out _ HBW.out).mono ?_
  rintro e W1 ⟨rfl, k1, rfl⟩
  have HB1 : Box (Below w.heap.size w (W.drewN k1)) := ⟨HBW.out.trans ⟨rfl, rfl, rfl, Nat.le_refl _, fun _ _ => rfl⟩⟩
  have z2 := (HP.out.drewN k1).cell (i := 2) rfl
  have u2 := (HQ.out.drewN k1).cell (i := 2) rfl
  go_wp2_with fail
  refine (H2.out _ HB1.out).mono ?_
  rintro e W2 ⟨rfl, k2, rfl⟩
  have HB2 : Box (Below w.heap.size w ((W.drewN k1).drewN k2)) := ⟨HB1.out.trans ⟨rfl, rfl, rfl, Nat.le_refl _, fun _ _ => rfl⟩⟩
  go_wp2_with fail
  go_ret
  exact ⟨rfl, HBW.out.trans ⟨rfl, rfl, rfl, Nat.le_refl _, fun _ _ => rfl⟩⟩
end Go.Proofs.Ytnolidjjeknmmaa
