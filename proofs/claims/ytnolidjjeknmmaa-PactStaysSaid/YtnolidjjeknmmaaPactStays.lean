/- PactStays is proved for every input: no condition stands ahead of it. -/
import Derived.Test.YtnolidjjeknmmaaLawKit
import Derived.Test.YtnolidjjeknmmaaBeatOpen
namespace Go.Proofs.Ytnolidjjeknmmaa
open Go.RowKit Go.Lib

def PactM.giving : List BeatM := [⟨5, 0, 0⟩]
theorem PactM.giving_play : (PactM.play 2 PactM.giving).lead = 2 := by decide
theorem BeatsAt.giving {w : World} {b : Nat} (h : Blk w b 24 [.int .i64 5, .int .i64 0, .int .i64 0]) : BeatsAt w (some ⟨b, 0, none⟩) PactM.giving :=
  Or.inr ⟨b, 0, rfl, h.lt, fun k hk => by
    match k, hk with
    | 0, _ => exact ⟨h.cell rfl, h.cell rfl, h.cell rfl⟩⟩

set_option maxRecDepth 20000 in
set_option maxHeartbeats 8000000 in
theorem pactStays_calls (n : Int) (l : List BeatM) (bt : BeatM) (ao : Option Addr) (cap : Nat) (w : World) (h : BeatsAt w ao l) (hn : l.length ≤ 9000000000000) :
    Calls Try.prog 3 #[.int .i64 n, .slice ao l.length cap, .agg #[.int .i64 bt.kind, .int .i64 bt.who, .int .i64 bt.by_]] w fun e w' => e = .returned (.bool true) ∧ Below w.heap.size w w' := by
  have H := box h
  clear h
  obtain ⟨kind, who, by_⟩ := bt
  simp only
  go_enter Try.func3, Try.ntmps3
  go_upto_region 1 with (fail)
  refine name_world (fun W => Below w.heap.size w W ∧ Blk W w.heap.size 24 [.int .i64 kind, .int .i64 who, .int .i64 by_]) ⟨(Below.refl _ _).alloc (Nat.le_refl _) _, Blk.new _ _ _⟩ ?_
  rintro W ⟨hbW, hkW⟩
  obtain ⟨B5, HB5⟩ : ∃ x, Box (w.heap.size = x) := ⟨_, ⟨rfl⟩⟩
  rw [HB5.out] at hkW ⊢
  have HBW := box hbW; have HKW := box hkW
  clear hbW hkW
  go_wp2_with fail
  refine (beats_any 2 PactM.giving (some ⟨W.heap.size, 0, none⟩) 1 _ (BeatsAt.giving (Blk.new W _ _)) (by decide)).mono ?_
  rintro e w1 ⟨hpost, hb1⟩
  obtain ⟨v, rfl, hout⟩ := (hpost.resolve_left (by rintro ⟨h, _⟩; exact h (by decide))).2
  obtain ⟨gv, vc, gp, pc, rfl, _, _, _⟩ := hout.is
  have hp1 : (PactM.play ((2 : Int)).toNat PactM.giving).lead = 2 := PactM.giving_play
  rw [hp1]
  have hbV : Below W.heap.size W w1 := ((Below.refl _ _).alloc (Nat.le_refl _) (.cells #[.int .i64 5, .int .i64 0, .int .i64 0] 24)).trans (hb1.mono (by simp))
  have HB1 := box (below_tr HBW.out hbV)
  have HK1 := box (HKW.out.after hbV)
  generalize (PactM.play ((2 : Int)).toNat PactM.giving).parts.length = pl1 at *
  generalize (PactM.play ((2 : Int)).toNat PactM.giving).votes.length = vl1 at *
  clear hpost hb1 hout hp1 hbV
  go_upto_region 2 with (fail)
  refine name_world (fun X => Below w.heap.size w X ∧ Blk X w1.heap.size 27 [.int .i64 2, .slice (some ⟨gv, 0, none⟩) vl1 vc, .slice (some ⟨gp, 0, none⟩) pl1 pc] ∧ Blk X B5 24 [.int .i64 kind, .int .i64 who, .int .i64 by_]) ⟨HB1.out.alloc HB1.out.size _, Blk.new _ _ _, HK1.out.alloc _⟩ ?_
  rintro W2 ⟨hb2, hp2, hk2⟩
  obtain ⟨B7, HB7⟩ : ∃ x, Box (w1.heap.size = x) := ⟨_, ⟨rfl⟩⟩
  rw [HB7.out] at hp2 ⊢
  have HB2 := box hb2; have HK2 := box hk2
  have x0 := hp2.cell (i := 0) rfl
  clear hb2 hk2 hp2
  go_wp2_with fail
  refine (beats_any n l ao cap _ (H.out.below HB2.out (Nat.le_refl _)) hn).mono ?_
  rintro e w3 ⟨hpost, hb3⟩
  have HB3 := box (below_tr HB2.out hb3)
  have HK3 := box (HK2.out.after hb3)
  clear hb3 x0
  rcases hpost with ⟨hn1, rfl⟩ | ⟨hn1, v, rfl, hout⟩
  · clear hn1
    go_wp2_with fail
    go_ret
    exact ⟨rfl, HB3.out.alloc HB3.out.size _⟩
  obtain ⟨m, rfl⟩ := Int.eq_ofNat_of_zero_le (show 0 ≤ n by omega)
  have hGood := PactM.play_good (n := m) (by omega) (by omega) l
  obtain ⟨gv2, vc2, gp2, pc2, rfl, _, hov, hop⟩ := hout.is
  obtain ⟨s, HS⟩ : ∃ x, Box (PactM.play ((m : Int)).toNat l = x) := ⟨_, ⟨rfl⟩⟩
  have hsm : PactM.play m l = s := HS.out
  rw [hsm] at hGood
  rw [HS.out] at hov hop ⊢
  have HG := box hGood.1
  have hp8 := hGood.1.n8
  have HOv := box hov; have HOp := box hop
  clear hout hov hop hGood hn1 hsm
  go_upto_region 5 with (fail)
  refine name_world (fun W => Below w.heap.size w W ∧ Blk W w3.heap.size 27 [.int .i64 s.lead, .slice (some ⟨gv2, 0, none⟩) s.votes.length vc2, .slice (some ⟨gp2, 0, none⟩) s.parts.length pc2] ∧ IntsAt W (some ⟨gv2, 0, none⟩) s.votes ∧ IntsAt W (some ⟨gp2, 0, none⟩) s.parts ∧ Blk W B5 24 [.int .i64 kind, .int .i64 who, .int .i64 by_]) ⟨HB3.out.alloc HB3.out.size _, Blk.new _ _ _, IntsAt.ofOwn (HOv.out.alloc _), IntsAt.ofOwn (HOp.out.alloc _), HK3.out.alloc _⟩ ?_
  rintro W4 ⟨hb4, hk4, hv4, hp4, hbt4⟩
  obtain ⟨B9, HB9⟩ : ∃ x, Box (w3.heap.size = x) := ⟨_, ⟨rfl⟩⟩
  rw [HB9.out] at hk4 ⊢
  have HB4 := box hb4; have HK4 := box hk4; have HP4 := box hp4
  have x0 := hk4.cell (i := 0) rfl
  have x1 := hk4.cell (i := 1) rfl
  have x2 := hk4.cell (i := 2) rfl
  have y0 := hbt4.cell (i := 0) rfl
  have y1 := hbt4.cell (i := 1) rfl
  have y2 := hbt4.cell (i := 2) rfl
  have HStep := box (pactStep_any s kind who by_ (some ⟨gv2, 0, none⟩) (some ⟨gp2, 0, none⟩) vc2 pc2 W4 hv4 hp4)
  clear hb4 hk4 hv4 hp4 hbt4
  go_wp2_with fail
  refine HStep.out.mono ?_
  rintro e w5 ⟨hpost, hb5⟩
  have HB5' := box (below_tr HB4.out hb5)
  have HK5 := box (HK4.out.after hb5)
  have HP5 := box (HP4.out.below hb5 (Nat.le_refl _))
  clear hb5 x0 x1 x2 y0 y1 y2
  rcases hpost with ⟨hcan, v, rfl, hout⟩ | ⟨hcan, c, hc, rfl⟩
  case inr =>
    have q1 : (c != 0) = true := by simpa using hc
    clear hcan hc
    go_wp2_with fail
    go_ret
    exact ⟨rfl, HB5'.out.alloc HB5'.out.size _⟩
  obtain ⟨gv6, vc6, gp6, pc6, rfl, _, hov, hop⟩ := hout.is
  have HSt := box (fun i => PactM.step_stays s kind (who := who.toNat) (by_ := by_.toNat) (by have := hcan.w0; have := hcan.w1; omega) (by have := hcan.b0; have := hcan.b1; omega) i)
  have HLe := box (PactM.step_lead s kind who.toNat by_.toNat)
  have hlen := (PactM.step_len s kind who.toNat by_.toNat).1
  obtain ⟨s2, HS2⟩ : ∃ x, Box (PactM.step s kind who.toNat by_.toNat = x) := ⟨_, ⟨rfl⟩⟩
  rw [HS2.out] at hop hov HSt HLe hlen ⊢
  have HO6 := box hop
  have HLen := box hlen
  clear hcan hout hov hop hlen
  go_upto_region 8 with (fail)
  refine name_world (fun W => Below w.heap.size w W ∧ Blk W w5.heap.size 27 [.int .i64 s2.lead, .slice (some ⟨gv6, 0, none⟩) s2.votes.length vc6, .slice (some ⟨gp6, 0, none⟩) s2.parts.length pc6] ∧ IntsAt W (some ⟨gp6, 0, none⟩) s2.parts ∧ IntsAt W (some ⟨gp2, 0, none⟩) s.parts ∧ Blk W B9 27 [.int .i64 s.lead, .slice (some ⟨gv2, 0, none⟩) s.votes.length vc2, .slice (some ⟨gp2, 0, none⟩) s.parts.length pc2]) ⟨HB5'.out.alloc HB5'.out.size _, Blk.new _ _ _, IntsAt.ofOwn (HO6.out.alloc _), HP5.out.below ((Below.refl _ _).alloc (Nat.le_refl _) _) (Nat.le_refl _), HK5.out.alloc _⟩ ?_
  rintro W7 ⟨hb7, hq7, hi7, hp7, hk7⟩
  obtain ⟨B11, HB11⟩ : ∃ x, Box (w5.heap.size = x) := ⟨_, ⟨rfl⟩⟩
  rw [HB11.out] at hq7 ⊢
  have HB7' := box hb7; have HI7 := box hi7; have HP7 := box hp7
  have x0 := hq7.cell (i := 0) rfl
  have x2 := hq7.cell (i := 2) rfl
  have y0 := hk7.cell (i := 0) rfl
  have y2 := hk7.cell (i := 2) rfl
  rw [HLen.out] at x2
  generalize s.lead = lead at *
  generalize s2.lead = lead2 at *
  obtain ⟨pl, HPl⟩ : ∃ x, Box (s.parts.length = x) := ⟨_, ⟨rfl⟩⟩
  rw [HPl.out] at x2 y2 hp8
  clear hb7 hi7 hp7 hk7 hq7
  go_wp2_with fail
  go_loop [51] (fun t51 => ∃ i : Nat, i ≤ pl ∧ t51 = .int .i64 (i : Int)) (fun t51 => pl - (intOf t51).toNat)
  case atStart => exact ⟨0, Nat.zero_le _, rfl⟩
  case round =>
    obtain ⟨i, hi, rfl⟩ := hrel
    by_cases hlt : i < pl
    case neg =>
      by_cases hl : lead = 0
      · subst hl
        go_wp2_with fail
        go_ret
        exact ⟨rfl, HB7'.out⟩
      · have q1 : (lead == 0) = false := by simpa using hl
        have q2 : lead2 = lead := HLe.out hl
        subst q2
        have q3 : (lead2 == lead2) = true := by simp
        go_wp2_with fail
        go_ret
        exact ⟨rfl, HB7'.out⟩
    have hi1 : i < s.parts.length := by rw [HPl.out]; exact hlt
    have hi2 : i < s2.parts.length := by rw [HLen.out]; exact hi1
    obtain ⟨b, off, hb1, _, hrow⟩ := (HP7.out.resolve_left (by intro h; rw [h] at hi1; simp at hi1))
    obtain ⟨b', off', hb2, _, hrow'⟩ := (HI7.out.resolve_left (by intro h; rw [h] at hi2; simp at hi2))
    simp only [Option.some.injEq, Addr.mk.injEq, and_true] at hb1 hb2
    obtain ⟨rfl, rfl⟩ := hb1
    obtain ⟨rfl, rfl⟩ := hb2
    have c0 := hrow i hi1
    have c1 := hrow' i hi2
    rw [Nat.zero_add, ← getD_of_lt hi1] at c0
    rw [Nat.zero_add, ← getD_of_lt hi2] at c1
    have hst := HSt.out i
    clear hrow hrow' hi1 hi2
    generalize s.parts.getD i 0 = a at *
    generalize s2.parts.getD i 0 = a2 at *
    have HST := box hst
    clear hst
    cases d1 : decide (2 ≤ a) with
    | true =>
      have e1 : a2 = a := HST.out.1 (by simpa using d1)
      subst e1
      have q1 : (a2 != a2) = false := by simp
      have q2 : (a2 == 1) = false := by simp at d1 ⊢; omega
      go_wp2_with fail
      go_round
      case rel => exact ⟨i + 1, hlt, by go_num⟩
      case measure => simp [intOf]; omega
    | false =>
      cases d2 : (a == 1) with
      | true =>
        have q3 : (a2 == 0) = false := by have := HST.out.2 (by simpa using d2); simpa using this
        go_wp2_with fail
        go_round
        case rel => exact ⟨i + 1, hlt, by go_num⟩
        case measure => simp [intOf]; omega
      | false =>
        go_wp2_with fail
        go_round
        case rel => exact ⟨i + 1, hlt, by go_num⟩
        case measure => simp [intOf]; omega
namespace lawPactStays
open Go.ChangeShapes Go.WideShapes Go.ChangeAt Go.RowKit Go.ChangeMaps

set_option maxRecDepth 100000 in
theorem lifted (os : Os) (started : os.Started) (H : Type) (enc : TypeId × Value → H) :
    ReturnsInHanded {} Try.checked os 3 .any (Rows.pactStaysSpec.pre6 enc Try.prog Try.f3 [] false) (Rows.pactStaysSpec.post enc Try.prog Try.f3 false true false false) := by
  refine LawKit.law_lifted started (by kernel_rfl) Try.func3 rfl
    (fun ds h => by
      match ds, h with
      | [_, _, _], _ => rfl)
    rfl Try.underlying4 (by intro t ht; exact of_decide_eq_true (p := Try.prog.readableRec t = true ∧ t < Try.prog.types.size) (by revert t ht; decide +kernel))
    (ChangeSpec.witness6 (enc := enc) (C := Try.checked) false ⟨#[], #[.int .i64 0, .slice none 0 0, .agg #[.int .i64 0, .int .i64 0, .int .i64 0]], []⟩ 8 (by kernel_rfl) (by kernel_rfl) (by kernel_rfl) (by kernel_rfl)) ?_
  intro W base args ds ps hval hA hsz hlt hfz
  have hA' := hA
  rw [Try.params3] at hA hval
  obtain ⟨v0, vs0, d0, ds0, p0, q0, hargs, rfl, rfl, h0, r0⟩ := trodAll_cons hA
  obtain ⟨v1, vs1, d1, ds1, p1, q1, rfl, rfl, rfl, h1, r1⟩ := trodAll_cons r0
  obtain ⟨v2, vs2, d2, ds2, p2, q2, rfl, rfl, rfl, h2, r2⟩ := trodAll_cons r1
  obtain ⟨rfl, rfl, rfl⟩ := trodAll_nil r2
  obtain rfl : args = #[v0, v1, v2] := by cases args; simp_all
  go_open 0 n
  obtain ⟨ao, cap, l, rfl, hat, hcap, hcap2⟩ := open_beats (hval 1 _ _ rfl rfl) h1 (Open.weights_bound hsz (j := 1) (by rw [Try.params3]; rfl) rfl)
  obtain ⟨bt, rfl⟩ := open_beat1 (hval 2 _ _ rfl rfl) h2
  refine (pactStays_calls n l bt ao cap W hat (by omega)).mono ?_
  rintro e W' ⟨rfl, hb⟩
  exact ⟨rfl, hb⟩

theorem proved : Rows.PactStaysSaid :=
  OpenClaim.holds_of_wide 3 Try.f3 rfl rfl rfl rfl rfl rfl rfl ⟨rfl, rfl, rfl, rfl, rfl⟩ rfl rfl rfl rfl rfl (by kernel_rfl) Try.func3 (by kernel_rfl)
    (of_decide_eq_true (by kernel_rfl)) (by unfold Func.isWrapper; first | (rw [if_pos (by decide +kernel)]; kernel_rfl) | (rw [if_neg (by decide +kernel)]; exact ⟨rfl, rfl⟩))
    (fun os started H enc _ => lifted os started H enc)
end lawPactStays
end Go.Proofs.Ytnolidjjeknmmaa
