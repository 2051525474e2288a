/- PactOne is proved for every input: no condition stands ahead of it. -/
import Derived.Test.YtnolidjjeknmmaaLawKit
import Derived.Test.YtnolidjjeknmmaaBeatOpen
import Derived.Test.YtnolidjjeknmmaaIntCF
import Derived.Deep.QuietTactic
import Derived.BigQuiet
import Derived.Deep.RegionHeld3
namespace Go.Proofs.Ytnolidjjeknmmaa
open Go.RowKit Go.Lib

def PactM.four : List BeatM := [⟨1, 0, 0⟩, ⟨3, 0, 0⟩, ⟨4, 0, 0⟩, ⟨6, 0, 0⟩]
theorem PactM.four_play : (PactM.play 1 PactM.four).parts = [2] := by decide
theorem BeatsAt.four {w : World} {b : Nat} (h : Blk w b 24 [.int .i64 1, .int .i64 0, .int .i64 0, .int .i64 3, .int .i64 0, .int .i64 0, .int .i64 4, .int .i64 0, .int .i64 0, .int .i64 6, .int .i64 0, .int .i64 0]) : BeatsAt w (some ⟨b, 0, none⟩) PactM.four :=
  Or.inr ⟨b, 0, rfl, h.lt, fun k hk => by
    match k, hk with
    | 0, _ => exact ⟨h.cell rfl, h.cell rfl, h.cell rfl⟩
    | 1, _ => exact ⟨h.cell rfl, h.cell rfl, h.cell rfl⟩
    | 2, _ => exact ⟨h.cell rfl, h.cell rfl, h.cell rfl⟩
    | 3, _ => exact ⟨h.cell rfl, h.cell rfl, h.cell rfl⟩⟩

theorem pactOne_tells (W : World) : Tells 17 #[] (fun n => n != 1) W := by
  intro x
  cases h : (x == 1) with
  | true =>
    have h2 : (x != 1) = false := by simp at h ⊢; exact h
    go_enter Try.func17, Try.ntmps17
    go_wp2_with fail
    go_ret
    exact ⟨by rw [h2]; rfl, rfl⟩
  | false =>
    have h2 : (x != 1) = true := by simp at h ⊢; exact h
    go_enter Try.func17, Try.ntmps17
    go_wp2_with fail
    go_ret
    exact ⟨by rw [h2]; rfl, rfl⟩

set_option maxRecDepth 20000 in
set_option maxHeartbeats 8000000 in
theorem pactOne_calls (n : Int) (l : List BeatM) (ao : Option Addr) (cap : Nat) (w : World) (h : BeatsAt w ao l) (hn : l.length ≤ 9000000000000) :
    Calls Try.prog 4 #[.int .i64 n, .slice ao l.length cap] w fun e w' => e = .returned (.bool true) ∧ Below w.heap.size w w' := by
  have H := box h
  clear h
  go_enter Try.func4, Try.ntmps4
  go_wp2_with fail
  refine (beats_any 1 PactM.four (some ⟨w.heap.size, 0, none⟩) 4 _ (BeatsAt.four (Blk.new w _ _)) (by decide)).mono ?_
  rintro e w1 ⟨hpost, hb1⟩
  obtain ⟨v, rfl, hout⟩ := (hpost.resolve_left (by rintro ⟨h, _⟩; exact h (by decide))).2
  obtain ⟨gv, vc, gp, pc, rfl, _, hov, hop⟩ := hout.is
  have hp1 : (PactM.play ((1 : Int)).toNat PactM.four).parts = [2] := PactM.four_play
  rw [hp1] at hop ⊢
  have HB1 := box (((Below.refl _ _).alloc (Nat.le_refl _) (.cells #[.int .i64 1, .int .i64 0, .int .i64 0, .int .i64 3, .int .i64 0, .int .i64 0, .int .i64 4, .int .i64 0, .int .i64 0, .int .i64 6, .int .i64 0, .int .i64 0] 24)).trans (hb1.mono (by simp)))
  have HO1 := box hop
  generalize (PactM.play ((1 : Int)).toNat PactM.four).lead = l1 at *
  generalize (PactM.play ((1 : Int)).toNat PactM.four).votes.length = vl1 at *
  clear hpost hb1 hout hov hop hp1
  go_upto_region 2 with (fail)
  refine name_world (fun W => Below w.heap.size w W ∧ Blk W w1.heap.size 27 [.int .i64 l1, .slice (some ⟨gv, 0, none⟩) vl1 vc, .slice (some ⟨gp, 0, none⟩) 1 pc] ∧ W.cell? ⟨gp, 0, none⟩ = some (.int .i64 2)) ⟨HB1.out.alloc HB1.out.size _, Blk.new _ _ _, by
    have h1 := HO1.out.alloc (.cells #[.int .i64 l1, .slice (some ⟨gv, 0, none⟩) vl1 vc, .slice (some ⟨gp, 0, none⟩) 1 pc] 27)
    exact (h1.cellAt 0 (by simp)).trans rfl⟩ ?_
  rintro W2 ⟨hb2, hk2, hc2⟩
  obtain ⟨B5, HB5⟩ : ∃ x, Box (w1.heap.size = x) := ⟨_, ⟨rfl⟩⟩
  rw [HB5.out] at hk2 ⊢
  have HB2 := box hb2
  have x2 := hk2.cell (i := 2) rfl
  clear hb2 hk2 HO1
  go_wp2_with fail
  refine (beats_any n l ao cap _ (H.out.below HB2.out (Nat.le_refl _)) hn).mono ?_
  rintro e w3 ⟨hpost, hb3⟩
  have HB3 := box (below_tr HB2.out hb3)
  clear hb3 x2 hc2
  rcases hpost with ⟨hn1, rfl⟩ | ⟨hn1, v, rfl, hout⟩
  · cases d1 : decide (n < 1) with
    | true =>
      go_wp2_with fail
      go_ret
      exact ⟨rfl, HB3.out.alloc HB3.out.size _⟩
    | false =>
      have d2 : decide (8 < n) = true := by simp at d1 ⊢; omega
      go_wp2_with fail
      go_ret
      exact ⟨rfl, HB3.out.alloc HB3.out.size _⟩
  obtain ⟨m, rfl⟩ := Int.eq_ofNat_of_zero_le (show 0 ≤ n by omega)
  have hGood := PactM.play_good (n := m) (by omega) (by omega) l
  obtain ⟨gv2, vc2, gp2, pc2, rfl, _, hov, hop⟩ := hout.is
  obtain ⟨s, HS⟩ : ∃ x, Box (PactM.play ((m : Int)).toNat l = x) := ⟨_, ⟨rfl⟩⟩
  have hsm : PactM.play m l = s := HS.out
  rw [hsm] at hGood
  rw [HS.out] at hov hop ⊢
  have HG := box hGood.1
  have hp8 := hGood.1.n8
  have hv8 : s.votes.length ≤ 8 := by have := hGood.1.vl; omega
  have HOv := box hov; have HOp := box hop
  obtain ⟨bc, Hbc⟩ : ∃ x, Box (decide ((2 : Int) ∈ s.parts) = x) := ⟨_, ⟨rfl⟩⟩
  obtain ⟨ba, Hba⟩ : ∃ x, Box (decide ((3 : Int) ∈ s.parts) = x) := ⟨_, ⟨rfl⟩⟩
  obtain ⟨bn, Hbn⟩ : ∃ x, Box (s.votes.any (fun n => n != 1) = x) := ⟨_, ⟨rfl⟩⟩
  have HLaw : Box (bc = true → s.lead = 1 ∧ ba = false ∧ bn = false) := ⟨fun h => by
    rw [h] at Hbc
    obtain ⟨i, hi, h2⟩ := PactM.mem_getD.1 (of_decide_eq_true Hbc.out)
    have he := HG.out.each i hi
    have hl : s.lead = 1 := he.2.2.2.2.2.2 h2
    refine ⟨hl, ?_, ?_⟩
    · rw [← Hba.out]
      refine decide_eq_false fun h3 => ?_
      obtain ⟨j, hj, h4⟩ := PactM.mem_getD.1 h3
      exact (HG.out.com hl j hj).2 h4
    · rw [← Hbn.out, List.any_eq_false]
      intro x hx
      obtain ⟨j, hj, h4⟩ := PactM.mem_getD.1 hx
      have := (HG.out.com hl j (by have := HG.out.vl; omega)).1
      rw [h4] at this
      simp [this]⟩
  clear hout hov hop hGood hn1 hsm
  go_upto_region 5 with (fail)
  refine name_world (fun W => Below w.heap.size w W ∧ Blk W w3.heap.size 27 [.int .i64 s.lead, .slice (some ⟨gv2, 0, none⟩) s.votes.length vc2, .slice (some ⟨gp2, 0, none⟩) s.parts.length pc2] ∧ IntsAt W (some ⟨gv2, 0, none⟩) s.votes ∧ IntsAt W (some ⟨gp2, 0, none⟩) s.parts) ⟨HB3.out.alloc HB3.out.size _, Blk.new _ _ _, IntsAt.ofOwn (HOv.out.alloc _), IntsAt.ofOwn (HOp.out.alloc _)⟩ ?_
  rintro W4 ⟨hb4, hk4, hv4, hp4⟩
  obtain ⟨B7, HB7⟩ : ∃ x, Box (w3.heap.size = x) := ⟨_, ⟨rfl⟩⟩
  rw [HB7.out] at hk4 ⊢
  have HB4 := box hb4
  have x0 := hk4.cell (i := 0) rfl
  have x1 := hk4.cell (i := 1) rfl
  have x2 := hk4.cell (i := 2) rfl
  have HCx : Box (∀ wz, Below W4.heap.size W4 wz → ∀ x : Int, Calls Try.prog 15 #[.slice (some ⟨gp2, 0, none⟩) s.parts.length pc2, .int .i64 x] wz fun e w' => e = .returned (.bool (decide (x ∈ s.parts))) ∧ wz = w') := ⟨fun wz hz x => contains_ints s.parts x (some ⟨gp2, 0, none⟩) pc2 wz (hp4.below hz (Nat.le_refl _)) (by omega)⟩
  have HCf : Box (∀ wz, Below W4.heap.size W4 wz → Calls Try.prog 16 #[.slice (some ⟨gv2, 0, none⟩) s.votes.length vc2, .func (.func 17) #[] #[]] wz fun e w' => e = .returned (.bool bn) ∧ wz = w') := ⟨fun wz hz => by
    rw [← Hbn.out]
    exact containsFunc_ints s.votes (some ⟨gv2, 0, none⟩) vc2 17 #[] _ wz (hv4.below hz (Nat.le_refl _)) (by omega) (pactOne_tells wz) (enters_fn Try.func17 (by kernel_rfl) rfl)⟩
  have HCk : Box (∀ wz, Below W4.heap.size W4 wz → Calls Try.prog 18 #[.agg #[.int .i64 s.lead, .slice (some ⟨gv2, 0, none⟩) s.votes.length vc2, .slice (some ⟨gp2, 0, none⟩) s.parts.length pc2]] wz fun e w' => e = .returned (.int .i64 0) ∧ Below wz.heap.size wz w') := ⟨fun wz hz => by
    refine (pactCheck_any s (some ⟨gv2, 0, none⟩) (some ⟨gp2, 0, none⟩) vc2 pc2 wz (hv4.below hz (Nat.le_refl _)) (hp4.below hz (Nat.le_refl _))).mono ?_
    rintro e w' ⟨⟨c, rfl, hc⟩, hb⟩
    exact ⟨by rw [hc.2 HG.out], hb⟩⟩
  clear hb4 hv4 hp4
  have HK4 := box hk4
  clear hk4
  generalize s.lead = lead at *
  generalize s.votes.length = vl at *
  generalize hpl : s.parts.length = pl at *
  clear hpl
  go_upto_region 7 with (fail)
  have Hq := box (fun q => (⟨rfl, rfl, rfl, Nat.le_refl _, fun _ _ => rfl⟩ : Below W4.heap.size W4 (W4.drewN q)))
  go_cut [9, 10] (fun s t wx => s = .bool bc ∧ t = .bool ba ∧ ∃ q, wx = W4.drewN q)
  case first =>
    go_region_held3 (fun w' => w'.cell? ⟨B7, 2, none⟩ = some (.slice (some ⟨gp2, 0, none⟩) pl pc2)) (first | exact x2 | assumption) (first
      | (go_at_call 15; refine (HCx.out _ (by first | exact (Below.refl _ _).drew | exact Hq.out _ | exact Below.refl _ _) _).mono ?_; rintro e w9 ⟨rfl, rfl⟩; (first | rw [Hbc.out] | rw [Hba.out]))
      | fail)
    go_step
    go_step
    go_meet
    exact ⟨rfl, rfl, 1, rfl⟩
  case rest =>
  obtain ⟨rfl, rfl, q, rfl⟩ := hcut
  have HX := box (Hq.out q)
  have HBX := box (below_tr HB4.out HX.out)
  have hkX := HK4.out.drewN q
  generalize W4.drewN q = X at *
  have z0 := hkX.cell (i := 0) rfl
  have z1 := hkX.cell (i := 1) rfl
  have z2 := hkX.cell (i := 2) rfl
  have HKX := box hkX
  clear hkX x0 x1 x2 Hq
  go_wp2_with fail
  refine (HCf.out _ HX.out).mono ?_
  rintro e w9 ⟨rfl, rfl⟩
  go_wp2_with fail
  refine (HCk.out _ HX.out).mono ?_
  rintro e w9 ⟨rfl, hb9⟩
  have HB9 := box (below_tr HBX.out hb9)
  have HK9 := box (HKX.out.after hb9)
  have y0 := HK9.out.cell (i := 0) rfl
  clear hb9 z0 z1 z2
  cases bc with
  | false =>
    go_wp2_with fail
    go_ret
    exact ⟨rfl, HB9.out⟩
  | true =>
    obtain ⟨rfl, rfl, rfl⟩ := HLaw.out rfl
    go_wp2_with fail
    go_ret
    exact ⟨rfl, HB9.out⟩
namespace lawPactOne
open Go.ChangeShapes Go.WideShapes Go.ChangeAt Go.RowKit Go.ChangeMaps

set_option maxRecDepth 100000 in
theorem lifted (os : Os) (started : os.Started) (H : Type) (enc : TypeId × Value → H) :
    ReturnsInHanded {} Try.checked os 4 .any (Rows.pactOneSpec.pre6 enc Try.prog Try.f4 [] false) (Rows.pactOneSpec.post enc Try.prog Try.f4 false true false false) := by
  refine LawKit.law_lifted started (by kernel_rfl) Try.func4 rfl
    (fun ds h => by
      match ds, h with
      | [_, _], _ => rfl)
    rfl Try.underlying4 (by intro t ht; exact of_decide_eq_true (p := Try.prog.readableRec t = true ∧ t < Try.prog.types.size) (by revert t ht; decide +kernel))
    (ChangeSpec.witness6 (enc := enc) (C := Try.checked) false ⟨#[], #[.int .i64 0, .slice none 0 0], []⟩ 8 (by kernel_rfl) (by kernel_rfl) (by kernel_rfl) (by kernel_rfl)) ?_
  intro W base args ds ps hval hA hsz hlt hfz
  have hA' := hA
  rw [Try.params4] at hA hval
  obtain ⟨v0, vs0, d0, ds0, p0, q0, hargs, rfl, rfl, h0, r0⟩ := trodAll_cons hA
  obtain ⟨v1, vs1, d1, ds1, p1, q1, rfl, rfl, rfl, h1, r1⟩ := trodAll_cons r0
  obtain ⟨rfl, rfl, rfl⟩ := trodAll_nil r1
  obtain rfl : args = #[v0, v1] := by cases args; simp_all
  go_open 0 n
  obtain ⟨ao, cap, l, rfl, hat, hcap, hcap2⟩ := open_beats (hval 1 _ _ rfl rfl) h1 (Open.weights_bound hsz (j := 1) (by rw [Try.params4]; rfl) rfl)
  refine (pactOne_calls n l ao cap W hat (by omega)).mono ?_
  rintro e W' ⟨rfl, hb⟩
  exact ⟨rfl, hb⟩

theorem proved : Rows.PactOneSaid :=
  OpenClaim.holds_of_wide 4 Try.f4 rfl rfl rfl rfl rfl rfl rfl ⟨rfl, rfl, rfl, rfl, rfl⟩ rfl rfl rfl rfl rfl (by kernel_rfl) Try.func4 (by kernel_rfl)
    (of_decide_eq_true (by kernel_rfl)) (by unfold Func.isWrapper; first | (rw [if_pos (by decide +kernel)]; kernel_rfl) | (rw [if_neg (by decide +kernel)]; exact ⟨rfl, rfl⟩))
    (fun os started H enc _ => lifted os started H enc)
end lawPactOne
end Go.Proofs.Ytnolidjjeknmmaa
