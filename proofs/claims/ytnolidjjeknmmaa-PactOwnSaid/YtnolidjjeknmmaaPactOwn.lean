/- PactOwn is proved for every input: no condition stands ahead of it. -/
import Derived.Test.YtnolidjjeknmmaaLawKit
import Derived.Test.YtnolidjjeknmmaaPactOwnW
import Derived.Test.YtnolidjjeknmmaaPactK
import Derived.Test.YtnolidjjeknmmaaPactOpen
import Derived.Deep.RegionHeld3
import Derived.Deep.CutBlock
namespace Go.Proofs.Ytnolidjjeknmmaa
open Go.RowKit Go.Lib

/-- The pact that the law hands in: its rows, with room behind. -/
structure InAmp (X : World) (base B g1 g2 : Nat) (s : PactSt) (n m : Nat) (lead : Int) : Prop where
  cell : Blk X B 27 [.int .i64 lead, .slice (some ⟨g1, 0, none⟩) n (n + 3), .slice (some ⟨g2, 0, none⟩) m (m + 3)]
  v : AmpleAt X base g1 s.votes 77
  p : AmpleAt X base g2 s.parts 77
  ne : g1 ≠ g2
  bB : base ≤ B
theorem InAmp.after {X X' : World} {base B g1 g2 n m : Nat} {s : PactSt} {lead : Int} (h : InAmp X base B g1 g2 s n m lead) (hb : Below X.heap.size X X') : InAmp X' base B g1 g2 s n m lead := ⟨h.cell.after hb, h.v.after hb, h.p.after hb, h.ne, h.bB⟩
theorem AmpleAt.mono {w : World} {base base' g : Nat} {l : List Int} {f : Int} (h : AmpleAt w base g l f) (hb : base' ≤ base) : AmpleAt w base' g l f := ownsRow_mono h hb
theorem AmpleAt.alloc {w : World} {base g : Nat} {l : List Int} {f : Int} (h : AmpleAt w base g l f) (o : Obj) : AmpleAt (w.alloc o) base g l f := World.ownsRow.alloc h o
theorem AmpleAt.set {w : World} {base g B t : Nat} {l : List Int} {f : Int} {C : List Value} (h : AmpleAt w base g l f) (hz : Blk w B t C) (ht : t ≠ 3) (i : Nat) (v : Value) : AmpleAt (w.setCell ⟨B, i, none⟩ v) base g l f :=
  ownsRow_setCell_other h (hz.ne_own h ht) v
theorem InAmp.build3 {X : World} {base B g1 g2 n m : Nat} {lead : Int} {a0 a1 a2 : Value} {s : PactSt} (hz : Blk X B 27 [a0, a1, a2]) (hv : AmpleAt X base g1 s.votes 77) (hp : AmpleAt X base g2 s.parts 77) (ne : g1 ≠ g2) (bB : base ≤ B) :
    InAmp (((X.setCell ⟨B, 0, none⟩ (.int .i64 lead)).setCell ⟨B, 1, none⟩ (.slice (some ⟨g1, 0, none⟩) n (n + 3))).setCell ⟨B, 2, none⟩ (.slice (some ⟨g2, 0, none⟩) m (m + 3))) base B g1 g2 s n m lead := by
  have t0 : 27 ≠ 3 := by decide
  exact ⟨((hz.set 0 _).set 1 _).set 2 _, (((hv.set hz t0 0 _).set (hz.set 0 _) t0 1 _).set ((hz.set 0 _).set 1 _) t0 2 _), (((hp.set hz t0 0 _).set (hz.set 0 _) t0 1 _).set ((hz.set 0 _).set 1 _) t0 2 _), ne, bB⟩

theorem own_any {w : World} {base e g n cap : Nat} {xs : List Value} (h : w.ownsRow base e 1 (.slice (some ⟨g, 0, none⟩) n cap) n xs) {k : Nat} (hk : k ≤ cap) : ∃ ys, w.ownsRow base e 1 (.slice (some ⟨g, 0, none⟩) k cap) k ys := by
  rcases h.2 with ⟨h1, _⟩ | ⟨g', cap', cur, h1, h2, h3, h4, h5, h6, h7⟩
  · cases h1
  · simp only [Value.slice.injEq, Option.some.injEq, Addr.mk.injEq, and_true, true_and] at h1
    obtain ⟨rfl, rfl⟩ := h1
    exact ⟨cur.toList.take k, by rw [List.length_take, Array.length_toList]; omega, Or.inr ⟨g, cap, cur, rfl, h2, h3, hk, h5, h6, by rw [Nat.mul_one]⟩⟩

set_option maxRecDepth 20000 in
set_option maxHeartbeats 16000000 in
theorem pactOwn_calls (s : PactSt) (bt : BeatM) (vo po : Option Addr) (vc pc : Nat) (w : World) (hv : IntsAt w vo s.votes) (hp : IntsAt w po s.parts) (nv : vo = none → vc = 0) (np : po = none → pc = 0) (lv : s.votes.length ≤ 17592186044000) (lp : s.parts.length ≤ 17592186044000) :
    Calls Try.prog 5 #[.agg #[.int .i64 s.lead, .slice vo s.votes.length vc, .slice po s.parts.length pc], .agg #[.int .i64 bt.kind, .int .i64 bt.who, .int .i64 bt.by_]] w fun e w' => e = .returned (.bool true) ∧ Below w.heap.size w w' := by
  obtain ⟨s2, hs2v, hs2p, hstep⟩ := step_got s bt.kind bt.who bt.by_
  have HStep := box hstep
  have HIv := box hv; have HIp := box hp
  have Hnv := box nv; have Hnp := box np; have Hlv := box lv; have Hlp := box lp
  have HStk := box (fun vo po vc pc w hv hp => pactStuck_any s vo po vc pc w hv hp)
  clear hv hp nv np hstep
  obtain ⟨kind, HKd⟩ : ∃ x, Box (bt.kind = x) := ⟨_, ⟨rfl⟩⟩
  obtain ⟨who, HWh⟩ : ∃ x, Box (bt.who = x) := ⟨_, ⟨rfl⟩⟩
  obtain ⟨by_, HBy⟩ : ∃ x, Box (bt.by_ = x) := ⟨_, ⟨rfl⟩⟩
  obtain ⟨lead, HLd⟩ : ∃ x, Box (s.lead = x) := ⟨_, ⟨rfl⟩⟩
  obtain ⟨n, HLn⟩ : ∃ x, Box (s.votes.length = x) := ⟨_, ⟨rfl⟩⟩
  obtain ⟨m, HLm⟩ : ∃ x, Box (s.parts.length = x) := ⟨_, ⟨rfl⟩⟩
  rw [HKd.out, HWh.out, HBy.out] at HStep ⊢
  rw [HLd.out, HLn.out, HLm.out] at HStep HStk ⊢
  rw [HLn.out] at lv
  rw [HLm.out] at lp
  go_enter Try.func5, Try.ntmps5
  go_upto_region 1 with (fail)
  obtain ⟨Bp, HBp⟩ : ∃ x, Box (w.heap.size = x) := ⟨_, ⟨rfl⟩⟩
  obtain ⟨Bb, HBb⟩ : ∃ x, Box (w.heap.size + 1 = x) := ⟨_, ⟨rfl⟩⟩
  refine name_world (fun W => Below w.heap.size w W ∧ Blk W w.heap.size 27 [.int .i64 lead, .slice vo n vc, .slice po m pc] ∧ Blk W (w.heap.size + 1) 24 [.int .i64 kind, .int .i64 who, .int .i64 by_])
    ⟨((Below.refl _ _).alloc (Nat.le_refl _) _).alloc (by simp) _, (Blk.new _ _ _).alloc _, Blk.new' (by simp) _ _⟩ ?_
  rintro W ⟨hbW, hpW, hbbW⟩
  have HBW := box hbW
  rw [HBb.out] at hbbW ⊢
  rw [HBp.out] at hpW ⊢
  have HP := box hpW; have HBt := box hbbW
  clear hbW hpW hbbW
  go_wp2_with fail
  refine (pactNew_any 2 W).mono ?_
  rintro e W1 ⟨hpost, hb1⟩
  obtain ⟨_, v, rfl, hout⟩ := hpost.resolve_left (by rintro ⟨h, _⟩; exact h (by decide))
  obtain ⟨gv, vc0, gp, pc0, rfl, _, _, _⟩ := hout.is
  have hf1 : (PactM.fresh (2 : Int).toNat).votes.length = 2 := rfl
  have hf2 : (PactM.fresh (2 : Int).toNat).parts.length = 2 := rfl
  have hf3 : (PactM.fresh (2 : Int).toNat).lead = 0 := rfl
  rw [hf1, hf2, hf3]
  clear hf1 hf2 hf3 hout hpost
  have HB1 := box (below_tr HBW.out hb1)
  have HP1 := box (HP.out.after hb1); have HBt1 := box (HBt.out.after hb1)
  clear hb1 HP HBt
  go_upto_region 4 with (fail)
  refine name_world (fun X => Below w.heap.size w X ∧ Blk X Bp 27 [.int .i64 lead, .slice vo n vc, .slice po m pc] ∧ Blk X Bb 24 [.int .i64 kind, .int .i64 who, .int .i64 by_]) ⟨HB1.out.alloc HB1.out.size _, HP1.out.alloc _, HBt1.out.alloc _⟩ ?_
  rintro W2 ⟨hb2, hp2, hbt2⟩
  have HB2 := box hb2; have HP2 := box hp2; have HBt2 := box hbt2
  have y0 := hp2.cell (i := 0) rfl
  have y1 := hp2.cell (i := 1) rfl
  have y2 := hp2.cell (i := 2) rfl
  clear hb2 hp2 hbt2 HP1 HBt1
  have hBpl := HP2.out.lt
  have HCv := box (fun wx (h : Below w.heap.size w wx) => ample_any s.votes 77 vo vc wx (HIv.out.below h (Nat.le_refl _)) Hnv.out Hlv.out)
  have HCp := box (fun wx (h : Below w.heap.size w wx) => ample_any s.parts 77 po pc wx (HIp.out.below h (Nat.le_refl _)) Hnp.out Hlp.out)
  rw [HLn.out] at HCv
  rw [HLm.out] at HCp
  have HSp : Box (∀ wx, Below W2.heap.size W2 wx → wx.cell? ⟨Bp, 0, none⟩ = some (.int .i64 lead) ∧ wx.cell? ⟨Bp, 1, none⟩ = some (.slice vo n vc) ∧ wx.cell? ⟨Bp, 2, none⟩ = some (.slice po m pc)) := ⟨fun wx h => ⟨(HP2.out.after h).cell rfl, (HP2.out.after h).cell rfl, (HP2.out.after h).cell rfl⟩⟩
  go_cut [7] (fun t7 wx => ∃ B g1 g2, t7 = .pointer (some ⟨B, 0, none⟩) ∧ InAmp wx W2.heap.size B g1 g2 s n m lead ∧ Below W2.heap.size W2 wx)
  case first =>
    go_region_held3 (fun w' => w'.cell? ⟨Bp, 0, none⟩ = some (.int .i64 lead) ∧ w'.cell? ⟨Bp, 1, none⟩ = some (.slice vo n vc) ∧ w'.cell? ⟨Bp, 2, none⟩ = some (.slice po m pc)) (first | exact ⟨y0, y1, y2⟩ | assumption | (refine HSp.out _ ?_; (repeat (first | exact HW9.out | exact HW8.out | exact Below.refl _ _ | refine Below.drew ?_ | refine Below.alloc ?_ (by first | omega | (simp; omega) | simp) _ | refine Below.setCell ?_ (by first | omega | (simp; omega) | simp) _)))) (first
      | (go_at_call 20; have _q := HW8; refine (HCp.out _ (by refine below_tr HB2.out ?_; (repeat (first | exact HW9.out | exact HW8.out | exact Below.refl _ _ | refine Below.drew ?_ | refine Below.alloc ?_ (by first | omega | (simp; omega) | simp) _ | refine Below.setCell ?_ (by first | omega | (simp; omega) | simp) _)))).mono ?_; rintro e w9 ⟨⟨gp, rfl, hgp1, hgp2, hown9⟩, hb9⟩; have HO9 := box hown9; have HBl9 := box hb9; have HW9 : Box (Below W2.heap.size W2 w9) := ⟨below_tr (by (repeat (first | exact HW9.out | exact HW8.out | exact Below.refl _ _ | refine Below.drew ?_ | refine Below.alloc ?_ (by first | omega | (simp; omega) | simp) _ | refine Below.setCell ?_ (by first | omega | (simp; omega) | simp) _))) hb9⟩; have hs9 := HW9.out.size; have hgv3 : gv < w9.heap.size := Nat.lt_of_lt_of_le hgv2 (by have := hb9.size; (try simp at this); omega); have hgg : gv ≠ gp := (by (try simp at hgp1); omega); have hs98 := hb9.size; (try (have hz9 := hz.out.after hb9; have g0 := hz9.cell (i := 0) rfl; have g1 := hz9.cell (i := 1) rfl; have g2 := hz9.cell (i := 2) rfl; have e0 := hz9.frozen 0; have e1 := hz9.frozen 1; have e2 := hz9.frozen 2; have HZ9 := box hz9; clear hz9)); (try (have hz9 := (Blk.new w8 [.int .i64 0, .slice none 0 0, .slice none 0 0] 27).after hb9; have g0 := hz9.cell (i := 0) rfl; have g1 := hz9.cell (i := 1) rfl; have g2 := hz9.cell (i := 2) rfl; have e0 := hz9.frozen 0; have e1 := hz9.frozen 1; have e2 := hz9.frozen 2; have HZ9 := box hz9; clear hz9)); clear hown9 hb9)
      | (go_at_call 20; refine (HCv.out _ (by refine below_tr HB2.out ?_; (repeat (first | exact HW9.out | exact HW8.out | exact Below.refl _ _ | refine Below.drew ?_ | refine Below.alloc ?_ (by first | omega | (simp; omega) | simp) _ | refine Below.setCell ?_ (by first | omega | (simp; omega) | simp) _)))).mono ?_; rintro e w8 ⟨⟨gv, rfl, hgv1, hgv2, hown8⟩, hb8⟩; have HO8 := box hown8; have HW8 : Box (Below W2.heap.size W2 w8) := ⟨below_tr (by (repeat (first | exact HW9.out | exact HW8.out | exact Below.refl _ _ | refine Below.drew ?_ | refine Below.alloc ?_ (by first | omega | (simp; omega) | simp) _ | refine Below.setCell ?_ (by first | omega | (simp; omega) | simp) _))) hb8⟩; have hs8 := HW8.out.size; (try (have hz := box ((Blk.new W2 [.int .i64 0, .slice none 0 0, .slice none 0 0] 27).drew.after hb8))); clear hown8 hb8)
      | fail)
    · go_step
      go_step
      go_meet
      exact ⟨_, _, _, rfl, ⟨Blk.new w9 _ _, ((HO8.out.after HBl9.out).alloc _).mono (by simp), ((HO9.out.mono hs8).alloc _), hgg, hs9⟩, HW9.out.alloc hs9 _⟩
    · go_step
      go_step
      go_meet
      exact ⟨_, _, _, rfl, InAmp.build3 HZ9.out ((HO8.out.alloc _).after HBl9.out) (HO9.out.mono (by simp; omega)) hgg hs8, ((HW9.out.setCell (by simpa using hs8) _).setCell (by simpa using hs8) _).setCell (by simpa using hs8) _⟩
    · go_step
      go_step
      go_meet
      exact ⟨_, _, _, rfl, InAmp.build3 HZ9.out ((HO8.out.mono (by simp)).after HBl9.out) (HO9.out.mono hs8) hgg (Nat.le_refl _), ((HW9.out.setCell (Nat.le_refl _) _).setCell (Nat.le_refl _) _).setCell (Nat.le_refl _) _⟩
  case rest =>
  obtain ⟨B7, g1, g2, rfl, hin, hbw⟩ := hcut
  obtain ⟨b7, Hb7⟩ : ∃ x, Box (W2.heap.size = x) := ⟨_, ⟨rfl⟩⟩
  have HB3 := box (below_tr HB2.out hbw)
  have HP3 := box (HP2.out.after hbw); have HBt3 := box (HBt2.out.after hbw)
  rw [Hb7.out] at hin
  have HI3 := box hin
  have x0 := hin.cell.cell (i := 0) rfl
  have x1 := hin.cell.cell (i := 1) rfl
  have x2 := hin.cell.cell (i := 2) rfl
  have u0 := HBt3.out.cell (i := 0) rfl
  have u1 := HBt3.out.cell (i := 1) rfl
  have u2 := HBt3.out.cell (i := 2) rfl
  clear hin hbw y0 y1 y2 HSp HCv HCp HP2 HBt2
  go_wp2_with fail
  refine (HStep.out (some ⟨g1, 0, none⟩) (some ⟨g2, 0, none⟩) (n + 3) (m + 3) wc (HI3.out.v.ints) (HI3.out.p.ints)).mono ?_
  rintro e w4 ⟨⟨ao, xc, bo, xd, c4, rfl, hgot⟩, hb4⟩
  obtain ⟨vn, HVn⟩ : ∃ x, Box (s2.votes.length = x) := ⟨_, ⟨rfl⟩⟩
  obtain ⟨pn, HPn⟩ : ∃ x, Box (s2.parts.length = x) := ⟨_, ⟨rfl⟩⟩
  obtain ⟨ld, HLd2⟩ : ∃ x, Box (s2.lead = x) := ⟨_, ⟨rfl⟩⟩
  rw [HVn.out, HPn.out, HLd2.out] at HStep ⊢
  have Hg4 := box hgot
  have HB4 := box (below_tr HB3.out hb4)
  have HI4 := box (HI3.out.after hb4); have HP4 := box (HP3.out.after hb4); have HBt4 := box (HBt3.out.after hb4)
  have Hs4 := box hb4.size
  clear hgot hb4 x0 x1 x2 u0 u1 u2 HP3 HBt3
  go_upto_region 6 with (fail)
  obtain ⟨B8, HB8⟩ : ∃ x, Box (w4.heap.size = x) := ⟨_, ⟨rfl⟩⟩
  obtain ⟨b5, Hb5⟩ : ∃ x, Box (wc.heap.size = x) := ⟨_, ⟨rfl⟩⟩
  refine name_world (fun X => Below w.heap.size w X ∧ InAmp X b7 B7 g1 g2 s n m lead ∧ Blk X Bp 27 [.int .i64 lead, .slice vo n vc, .slice po m pc] ∧ Blk X Bb 24 [.int .i64 kind, .int .i64 who, .int .i64 by_] ∧
      PactGot X b5 s2 ao xc bo xd ∧ Blk X w4.heap.size 27 [.int .i64 ld, .slice ao vn xc, .slice bo pn xd])
    ⟨HB4.out.alloc HB4.out.size _, HI4.out.after ((Below.refl _ _).alloc (Nat.le_refl _) _), HP4.out.alloc _, HBt4.out.alloc _, Hb5.out ▸ Hg4.out.alloc _, Blk.new _ _ _⟩ ?_
  rintro W5 ⟨hb5, hi5, hp5, hbt5, hg5, hx5⟩
  rw [HB8.out] at hx5 ⊢
  have hg1b : g1 < b5 := by rw [← Hb5.out]; exact (World.ownsRow.lt HI3.out.v g1 rfl).2
  have hg2b : g2 < b5 := by rw [← Hb5.out]; exact (World.ownsRow.lt HI3.out.p g2 rfl).2
  clear HI4 HP4 HBt4 Hg4 HI3
  have HB5 := box hb5; have HI5 := box hi5; have HP5 := box hp5; have HBt5 := box hbt5; have HG5 := box hg5; have HX5 := box hx5
  have x0 := hi5.cell.cell (i := 0) rfl
  have x1 := hi5.cell.cell (i := 1) rfl
  have x2 := hi5.cell.cell (i := 2) rfl
  clear hb5 hi5 hp5 hbt5 hg5 hx5
  go_wp2_with fail
  refine (HStk.out (some ⟨g1, 0, none⟩) (some ⟨g2, 0, none⟩) (n + 3) (m + 3) W5 (HI5.out.v.ints) (HI5.out.p.ints)).mono ?_
  rintro e w6 ⟨hst, hb6⟩
  obtain ⟨vst, rfl⟩ : ∃ v, e = .returned v := by
    rcases hst with ⟨_, c, _, rfl⟩ | ⟨_, _, rfl⟩ | ⟨_, _, so, sc, rfl, _⟩ <;> exact ⟨_, rfl⟩
  have HB6 := box (below_tr HB5.out hb6)
  have HI6 := box (HI5.out.after hb6); have HP6 := box (HP5.out.after hb6); have HBt6 := box (HBt5.out.after hb6); have HG6 := box (HG5.out.after hb6); have HX6 := box (HX5.out.after hb6)
  clear hst hb6 x0 x1 x2 HI5 HP5 HBt5 HG5 HX5
  have x1 := HI6.out.cell.cell (i := 1) rfl
  have y1 := HP6.out.cell (i := 1) rfl
  have HS1 := box (fun (X : World) (h : Below w.heap.size w X) (hi : InAmp X b7 B7 g1 g2 s n m lead) => stays_any s.votes 77 vo vc g1 b7 X (HIv.out.below h (Nat.le_refl _)) hi.v Hlv.out)
  have HS2 := box (fun (X : World) (h : Below w.heap.size w X) (hi : InAmp X b7 B7 g1 g2 s n m lead) => stays_any s.parts 77 po pc g2 b7 X (HIp.out.below h (Nat.le_refl _)) hi.p Hlp.out)
  rw [HLn.out] at HS1
  rw [HLm.out] at HS2
  go_wp2_with fail
  refine (HS1.out _ HB6.out HI6.out).mono ?_
  rintro e w7 ⟨rfl, hb7⟩
  have HB7 := box (below_tr HB6.out hb7)
  have HI7 := box (HI6.out.after hb7); have HP7 := box (HP6.out.after hb7); have HBt7 := box (HBt6.out.after hb7); have HG7 := box (HG6.out.after hb7); have HX7 := box (HX6.out.after hb7)
  clear hb7 x1 y1 HI6 HP6 HBt6 HG6 HX6
  have x2 := HI7.out.cell.cell (i := 2) rfl
  have y2 := HP7.out.cell (i := 2) rfl
  go_wp2_with fail
  refine (HS2.out _ HB7.out HI7.out).mono ?_
  rintro e w8 ⟨rfl, hb8⟩
  have HB8' := box (below_tr HB7.out hb8)
  have HI8 := box (HI7.out.after hb8); have HBt8 := box (HBt7.out.after hb8); have HG8 := box (HG7.out.after hb8); have HX8 := box (HX7.out.after hb8)
  clear hb8 x2 y2 HI7 HP7 HBt7 HG7 HX7
  have x0 := HI8.out.cell.cell (i := 0) rfl
  have x1 := HI8.out.cell.cell (i := 1) rfl
  have x2 := HI8.out.cell.cell (i := 2) rfl
  have u0 := HBt8.out.cell (i := 0) rfl
  have u1 := HBt8.out.cell (i := 1) rfl
  have u2 := HBt8.out.cell (i := 2) rfl
  go_wp2_with fail
  refine (HStep.out (some ⟨g1, 0, none⟩) (some ⟨g2, 0, none⟩) (n + 3) (m + 3) w8 (HI8.out.v.ints) (HI8.out.p.ints)).mono ?_
  rintro e w9 ⟨⟨ao', xc', bo', xd', c9, rfl, hgot⟩, hb9⟩
  have Hg9 := box hgot
  have HB9 := box (below_tr HB8'.out hb9)
  have HI9 := box (HI8.out.after hb9); have HG9 := box (HG8.out.after hb9); have HX9 := box (HX8.out.after hb9)
  have hg1c : g1 < w8.heap.size := (World.ownsRow.lt HI8.out.v g1 rfl).2
  have hg2c : g2 < w8.heap.size := (World.ownsRow.lt HI8.out.p g2 rfl).2
  clear hgot hb9 x0 x1 x2 u0 u1 u2 HBt8
  go_upto_region 10 with (fail)
  obtain ⟨B10, HB10⟩ : ∃ x, Box (w9.heap.size = x) := ⟨_, ⟨rfl⟩⟩
  obtain ⟨b8, Hb8⟩ : ∃ x, Box (w8.heap.size = x) := ⟨_, ⟨rfl⟩⟩
  refine name_world (fun X => Below w.heap.size w X ∧ InAmp X b7 B7 g1 g2 s n m lead ∧ PactGot X b5 s2 ao xc bo xd ∧ Blk X B8 27 [.int .i64 ld, .slice ao vn xc, .slice bo pn xd] ∧
      PactGot X b8 s2 ao' xc' bo' xd' ∧ Blk X w9.heap.size 27 [.int .i64 ld, .slice ao' vn xc', .slice bo' pn xd'])
    ⟨HB9.out.alloc HB9.out.size _, HI9.out.after ((Below.refl _ _).alloc (Nat.le_refl _) _), HG9.out.alloc _, HX9.out.alloc _, Hb8.out ▸ Hg9.out.alloc _, Blk.new _ _ _⟩ ?_
  rintro X0 ⟨hb10, hi10, hg10, hx10, hq10, hy10⟩
  rw [HB10.out] at hy10 ⊢
  rw [Hb8.out] at hg1c hg2c
  clear HI9 HG9 HX9 Hg9
  have HBa := box hb10; have HIa := box hi10; have HGa := box hg10; have HXa := box hx10; have HQa := box hq10; have HYa := box hy10
  have x1 := hi10.cell.cell (i := 1) rfl
  clear hb10 hi10 hg10 hx10 hq10 hy10
  have Hbase : Box (w.heap.size ≤ b7) := ⟨by rw [← Hb7.out]; exact HB2.out.size⟩
  have t0 : 27 ≠ 3 := by decide
  go_wp2_with fail
  obtain ⟨ys1, hys1⟩ := own_any HIa.out.v (k := s.votes.length) (by omega)
  have HSp1 := box (spoil_row b7 _ _ (some ⟨g1, 0, none⟩) 5 _ X0 hys1)
  clear hys1
  rw [HLn.out] at HSp1
  refine HSp1.out.mono ?_
  rintro e w11 ⟨rfl, hgr⟩
  have hgr : X0.grownBy w11 (some g1) := hgr
  have kb1 := HIa.out.cell.ne_own HIa.out.v t0
  have kx1 := HXa.out.ne_own HIa.out.v t0
  have ky1 := HYa.out.ne_own HIa.out.v t0
  have HBc := box (HBa.out.grown hgr HBa.out.size (fun j hj => by injection hj with hj; have := (World.ownsRow.lt HIa.out.v g1 rfl).1; have := Hbase.out; omega))
  have Hcell1 := box (HIa.out.cell.grown hgr kb1)
  have Hp1 : Box (AmpleAt w11 b7 g2 s.parts 77) := ⟨World.ownsRow.kept HIa.out.p hgr (Or.inr (by simp [Value.ownBlock]; exact fun e => HIa.out.ne e.symm))⟩
  have HGc := box (HGa.out.grown hgr hg1b); have HQc := box (HQa.out.grown hgr hg1c)
  have HXc := box (HXa.out.grown hgr kx1); have HYc := box (HYa.out.grown hgr ky1)
  clear hgr kb1 kx1 ky1 HSp1 x1 HGa HQa HXa HYa
  have x2 := Hcell1.out.cell (i := 2) rfl
  go_wp2_with fail
  obtain ⟨ys2, hys2⟩ := own_any Hp1.out (k := s.parts.length) (by omega)
  have HSp2 := box (spoil_row b7 _ _ (some ⟨g2, 0, none⟩) 5 _ w11 hys2)
  clear hys2
  rw [HLm.out] at HSp2
  refine HSp2.out.mono ?_
  rintro e w12 ⟨rfl, hgr⟩
  have hgr : w11.grownBy w12 (some g2) := hgr
  have kx1 := HXc.out.ne_own Hp1.out t0
  have ky1 := HYc.out.ne_own Hp1.out t0
  have HBd := box (HBc.out.grown hgr HBc.out.size (fun j hj => by injection hj with hj; have := (World.ownsRow.lt Hp1.out g2 rfl).1; have := Hbase.out; omega))
  have HGd := box (HGc.out.grown hgr hg2b); have HQd := box (HQc.out.grown hgr hg2c)
  have HXd := box (HXc.out.grown hgr kx1); have HYd := box (HYc.out.grown hgr ky1)
  clear hgr kx1 ky1 HSp2 x2 HGc HQc HXc HYc Hcell1 Hp1 HIa
  have x0 := HXd.out.cell (i := 0) rfl
  have x1 := HXd.out.cell (i := 1) rfl
  have x2 := HXd.out.cell (i := 2) rfl
  have y0 := HYd.out.cell (i := 0) rfl
  have y1 := HYd.out.cell (i := 1) rfl
  have y2 := HYd.out.cell (i := 2) rfl
  have HSame := box (samePact_same s2 ao bo ao' bo' xc xd xc' xd' w12 (IntsAt.ofRow HGd.out.votes) (IntsAt.ofRow HGd.out.parts) (IntsAt.ofRow HQd.out.votes) (IntsAt.ofRow HQd.out.parts) hs2v hs2p)
  rw [HVn.out, HPn.out, HLd2.out] at HSame
  rw [HPn.out] at hs2p
  go_wp2_with fail
  refine HSame.out.mono ?_
  rintro e w13 ⟨rfl, hb13⟩
  have HBe := box (below_tr HBd.out hb13)
  have HGe := box (HGd.out.after hb13); have HQe := box (HQd.out.after hb13); have HXe := box (HXd.out.after hb13); have HYe := box (HYd.out.after hb13)
  clear hb13 x0 x1 x2 y0 y1 y2 HSame HGd HQd HXd HYd
  have x1 := HXe.out.cell (i := 1) rfl
  go_wp2_with fail
  have HSp3 := box (spoil_row b5 _ _ ao 9 _ w13 HGe.out.votes)
  rw [HVn.out] at HSp3
  refine HSp3.out.mono ?_
  rintro e w14 ⟨rfl, hgr⟩
  have hgr : w13.grownBy w14 (Value.slice ao s2.votes.length xc).ownBlock := by rw [HVn.out]; exact hgr
  have Hb5' : Box (w.heap.size ≤ b5) := ⟨by rw [← Hb5.out]; exact HB3.out.size⟩
  have kx1 := HXe.out.ne_own HGe.out.votes t0
  have ky1 := HYe.out.ne_own HGe.out.votes t0
  have HBf := box (HBe.out.grown hgr HBe.out.size (fun j hj => by have := (HGe.out.votes.lt j hj).1; have := Hb5'.out; omega))
  have HRx := box (IntsAt.ofRow (HGe.out.parts.kept hgr HGe.out.ne))
  have HRy := box (IntsAt.ofRow (HQe.out.parts.kept hgr (by
    cases hb : (Value.slice bo' s2.parts.length xd').ownBlock with
    | none => exact Or.inl rfl
    | some j =>
      refine Or.inr fun e => ?_
      have h1 := (HQe.out.parts.lt j hb).1
      have h2 := (HG8.out.votes.lt j e.symm).2
      rw [Hb8.out] at h2
      omega)))
  have HXf := box (HXe.out.grown hgr kx1); have HYf := box (HYe.out.grown hgr ky1)
  clear hgr kx1 ky1 x1 HXe HYe HGe HQe HSp3
  have x2 := HXf.out.cell (i := 2) rfl
  have y2 := HYf.out.cell (i := 2) rfl
  have HEq := box (equalInts_same s2.parts bo bo' xd xd' w14 HRx.out HRy.out (by rw [HPn.out]; omega))
  rw [HPn.out] at HEq
  go_wp2_with fail
  refine HEq.out.mono ?_
  rintro e w15 ⟨rfl, k15, rfl⟩
  go_wp2_with fail
  go_ret
  exact ⟨rfl, HBf.out.trans ⟨rfl, rfl, rfl, Nat.le_refl _, fun _ _ => rfl⟩⟩
namespace lawPactOwn
open Go.ChangeShapes Go.WideShapes Go.ChangeAt Go.RowKit Go.ChangeMaps

set_option maxRecDepth 100000 in
theorem lifted (os : Os) (started : os.Started) (H : Type) (enc : TypeId × Value → H) :
    ReturnsInHanded {} Try.checked os 5 .any (Rows.pactOwnSpec.pre6 enc Try.prog Try.f5 [] false) (Rows.pactOwnSpec.post enc Try.prog Try.f5 false true false false) := by
  refine LawKit.law_lifted started (by kernel_rfl) Try.func5 rfl
    (fun ds h => by
      match ds, h with
      | [_, _], _ => rfl)
    rfl Try.underlying4 (by intro t ht; exact of_decide_eq_true (p := Try.prog.readableRec t = true ∧ t < Try.prog.types.size) (by revert t ht; decide +kernel))
    (ChangeSpec.witness6 (enc := enc) (C := Try.checked) false ⟨#[], #[.agg #[.int .i64 0, .slice none 0 0, .slice none 0 0], .agg #[.int .i64 0, .int .i64 0, .int .i64 0]], []⟩ 8 (by kernel_rfl) (by kernel_rfl) (by kernel_rfl) (by kernel_rfl)) ?_
  intro W base args ds ps hval hA hsz hlt hfz
  have hA' := hA
  rw [Try.params5] at hA hval
  obtain ⟨v0, vs0, d0, ds0, p0, q0, hargs, rfl, rfl, h0, r0⟩ := trodAll_cons hA
  obtain ⟨v1, vs1, d1, ds1, p1, q1, rfl, rfl, rfl, h1, r1⟩ := trodAll_cons r0
  obtain ⟨rfl, rfl, rfl⟩ := trodAll_nil r1
  obtain rfl : args = #[v0, v1] := by cases args; simp_all
  obtain ⟨s, vo, vc, po, pc, rfl, hv, hp, nv, np, lv, lp⟩ := open_pact (hval 0 _ _ rfl rfl) h0 (Open.weights_bound hsz (j := 0) (by rw [Try.params5]; rfl) rfl)
  obtain ⟨bt, rfl⟩ := open_beat1 (hval 1 _ _ rfl rfl) h1
  refine (pactOwn_calls s bt vo po vc pc W hv hp nv np lv lp).mono ?_
  rintro e W' ⟨rfl, hb⟩
  exact ⟨rfl, hb⟩

theorem proved : Rows.PactOwnSaid :=
  OpenClaim.holds_of_wide 5 Try.f5 rfl rfl rfl rfl rfl rfl rfl ⟨rfl, rfl, rfl, rfl, rfl⟩ rfl rfl rfl rfl rfl (by kernel_rfl) Try.func5 (by kernel_rfl)
    (of_decide_eq_true (by kernel_rfl)) (by unfold Func.isWrapper; first | (rw [if_pos (by decide +kernel)]; kernel_rfl) | (rw [if_neg (by decide +kernel)]; exact ⟨rfl, rfl⟩))
    (fun os started H enc _ => lifted os started H enc)
end lawPactOwn
end Go.Proofs.Ytnolidjjeknmmaa
