/- pact.Step: what it answers. -/
import Derived.Test.YtnolidjjeknmmaaPactW
import Derived.Test.YtnolidjjeknmmaaIntClone
import Derived.Deep.RegionHeld3
import Derived.Deep.CutBlock
namespace Go.Proofs.Ytnolidjjeknmmaa
open Go.RowKit Go.Lib

theorem PactIn.build {F : World} {base B gv vc gp pc n : Nat} {lead : Int} {s : PactSt} (hl : s.lead = lead) (hm : s.votes.length = n) (hn : s.parts.length = n) (hz : Blk F B 27 [.int .i64 lead, .slice (some ⟨gv, 0, none⟩) n vc, .slice (some ⟨gp, 0, none⟩) n pc])
    (hv : F.ownsRow base 3 1 (.slice (some ⟨gv, 0, none⟩) n vc) n (intVals s.votes)) (hp : F.ownsRow base 3 1 (.slice (some ⟨gp, 0, none⟩) n pc) n (intVals s.parts)) (ne : gv ≠ gp) (bB : base ≤ B) : PactIn F base B gv vc gp pc s := by
  subst hl
  exact ⟨by rw [hm, hn]; exact hz, by rw [hm]; exact hv, by rw [hn]; exact hp, ne, bB⟩
theorem PactIn.build3 {X : World} {base B gv vc gp pc n : Nat} {lead : Int} {a0 a1 a2 : Value} {s : PactSt} (hl : s.lead = lead) (hm : s.votes.length = n) (hn : s.parts.length = n) (hz : Blk X B 27 [a0, a1, a2])
    (hv : X.ownsRow base 3 1 (.slice (some ⟨gv, 0, none⟩) n vc) n (intVals s.votes)) (hp : X.ownsRow base 3 1 (.slice (some ⟨gp, 0, none⟩) n pc) n (intVals s.parts)) (ne : gv ≠ gp) (bB : base ≤ B) :
    PactIn (((X.setCell ⟨B, 0, none⟩ (.int .i64 lead)).setCell ⟨B, 1, none⟩ (.slice (some ⟨gv, 0, none⟩) n vc)).setCell ⟨B, 2, none⟩ (.slice (some ⟨gp, 0, none⟩) n pc)) base B gv vc gp pc s := by
  have n1 : B ≠ gv := fun e => hz.ne_own hv (by decide) (by simp [Value.ownBlock, e])
  have n2 : B ≠ gp := fun e => hz.ne_own hp (by decide) (by simp [Value.ownBlock, e])
  have k : ∀ {w : World} {g c : Nat} {xs : List Value} (h : w.ownsRow base 3 1 (.slice (some ⟨g, 0, none⟩) n c) n xs) (_ : B ≠ g) (i : Nat) (v : Value), (w.setCell ⟨B, i, none⟩ v).ownsRow base 3 1 (.slice (some ⟨g, 0, none⟩) n c) n xs :=
    fun h hne i v => h.kept (grown_set _ ⟨B, i, none⟩ v) (Or.inr (by simp [Value.ownBlock]; exact fun e => hne e.symm))
  exact PactIn.build hl hm hn (((hz.set 0 _).set 1 _).set 2 _) (k (k (k hv n1 0 _) n1 1 _) n1 2 _) (k (k (k hp n2 0 _) n2 1 _) n2 2 _) ne bB

structure PactM.Can (s : PactSt) (kind who by_ : Int) : Prop where
  good : PactM.Good s
  k1 : 1 ≤ kind
  k7 : kind ≤ 7
  w0 : 0 ≤ who
  w1 : who < s.parts.length
  b0 : 0 ≤ by_
  b1 : by_ < s.parts.length
/-- A pact that is handed out. -/
structure PactOut (w : World) (base : Nat) (s : PactSt) (v : Value) : Prop where
  is : ∃ gv vc gp pc, v = .agg #[.int .i64 s.lead, .slice (some ⟨gv, 0, none⟩) s.votes.length vc, .slice (some ⟨gp, 0, none⟩) s.parts.length pc] ∧ gv ≠ gp ∧
    w.ownsRow base 3 1 (.slice (some ⟨gv, 0, none⟩) s.votes.length vc) s.votes.length (intVals s.votes) ∧ w.ownsRow base 3 1 (.slice (some ⟨gp, 0, none⟩) s.parts.length pc) s.parts.length (intVals s.parts)
def PactM.StepPost (s : PactSt) (kind who by_ : Int) (base : Nat) (e : Ending) (w' : World) : Prop :=
  (PactM.Can s kind who by_ ∧ ∃ v, e = .returned (.tuple #[v, .int .i64 0]) ∧ PactOut w' base (PactM.step s kind who.toNat by_.toNat) v) ∨
  (¬ PactM.Can s kind who by_ ∧ ∃ c : Int, c ≠ 0 ∧ e = .returned (.tuple #[.agg #[.int .i64 0, .slice none 0 0, .slice none 0 0], .int .i64 c]))

set_option maxRecDepth 20000 in
set_option maxHeartbeats 8000000 in
theorem pactStep_any (s : PactSt) (kind who by_ : Int) (vo po : Option Addr) (vc pc : Nat) (w : World) (hv : IntsAt w vo s.votes) (hp : IntsAt w po s.parts) :
    Calls Try.prog 14 #[.agg #[.int .i64 s.lead, .slice vo s.votes.length vc, .slice po s.parts.length pc], .agg #[.int .i64 kind, .int .i64 who, .int .i64 by_]] w fun e w' => PactM.StepPost s kind who by_ w.heap.size e w' ∧ Below w.heap.size w w' := by
  have HIv := box hv; have HIp := box hp
  have HC := box (fun w hv hp => pactCheck_any s vo po vc pc w hv hp)
  clear hv hp
  go_enter Try.func14, Try.ntmps14
  go_upto_region 1 with (fail)
  obtain ⟨lead, HLd⟩ : ∃ x, Box (s.lead = x) := ⟨_, ⟨rfl⟩⟩
  rw [HLd.out] at HC ⊢
  obtain ⟨n, HLn⟩ : ∃ x, Box (s.parts.length = x) := ⟨_, ⟨rfl⟩⟩
  obtain ⟨m, HLm⟩ : ∃ x, Box (s.votes.length = x) := ⟨_, ⟨rfl⟩⟩
  rw [HLn.out, HLm.out] at HC ⊢
  obtain ⟨Bp, HBp⟩ : ∃ x, Box (w.heap.size = x) := ⟨_, ⟨rfl⟩⟩
  obtain ⟨Bb, HBb⟩ : ∃ x, Box (w.heap.size + 1 = x) := ⟨_, ⟨rfl⟩⟩
  obtain ⟨Br, HBr⟩ : ∃ x, Box (w.heap.size + 1 + 1 = x) := ⟨_, ⟨rfl⟩⟩
  refine name_world (fun W => Below w.heap.size w W ∧ Blk W w.heap.size 27 [.int .i64 lead, .slice vo m vc, .slice po n pc] ∧ Blk W (w.heap.size + 1) 24 [.int .i64 kind, .int .i64 who, .int .i64 by_] ∧ Blk W (w.heap.size + 1 + 1) 27 [.int .i64 0, .slice none 0 0, .slice none 0 0])
    ⟨(((Below.refl _ _).alloc (Nat.le_refl _) _).alloc (by simp) _).alloc (by simp; omega) _, ((Blk.new _ _ _).alloc _).alloc _, (Blk.new' (by simp) _ _).alloc _, Blk.new' (by simp) _ _⟩ ?_
  rintro W ⟨hbW, hpW, hbbW, hrW⟩
  have HBW := box hbW
  rw [HBp.out] at hpW
  rw [HBb.out] at hbbW
  rw [HBr.out] at hrW ⊢
  rw [HBb.out, HBp.out]
  have HP := box hpW; have HBt := box hbbW; have HR := box hrW
  have hlts : w.heap.size ≤ Bp ∧ Bp < Bb ∧ Bb < Br := by have := HBp.out; have := HBb.out; have := HBr.out; omega
  have x0 := hpW.cell (i := 0) rfl
  have x1 := hpW.cell (i := 1) rfl
  have x2 := hpW.cell (i := 2) rfl
  clear hbW hpW hbbW hrW
  go_wp2_with fail
  refine (HC.out _ (HIv.out.below HBW.out (Nat.le_refl _)) (HIp.out.below HBW.out (Nat.le_refl _))).mono ?_
  rintro e W1 ⟨⟨c, rfl, hcg⟩, hb1⟩
  have HB1 := box (below_tr HBW.out hb1)
  have HP1 := box (HP.out.after hb1); have HBt1 := box (HBt.out.after hb1); have HR1 := box (HR.out.after hb1)
  have HCG := box hcg
  clear hb1 hcg x0 x1 x2 HP HBt HR HC
  have y0 := HP1.out.cell (i := 0) rfl
  have y1 := HP1.out.cell (i := 1) rfl
  have y2 := HP1.out.cell (i := 2) rfl
  have z0 := HBt1.out.cell (i := 0) rfl
  have z1 := HBt1.out.cell (i := 1) rfl
  have z2 := HBt1.out.cell (i := 2) rfl
  have r0 := HR1.out.cell (i := 0) rfl
  have r1 := HR1.out.cell (i := 1) rfl
  have r2 := HR1.out.cell (i := 2) rfl
  have f0 := HR1.out.frozen 0
  have f1 := HR1.out.frozen 1
  have f2 := HR1.out.frozen 2
  have HBset := box (fun W' (h : Below w.heap.size w W') i v => h.setCell (p := ⟨Br, i, none⟩) (by simp; omega) v)
  have HErr : Box (∀ c' : Int, c' ≠ 0 → ¬ PactM.Can s kind who by_ → ∀ w', PactM.StepPost s kind who by_ w.heap.size (.returned (.tuple #[.agg #[.int .i64 0, .slice none 0 0, .slice none 0 0], .int .i64 c'])) w') := ⟨fun c' h1 h2 w' => Or.inr ⟨h2, c', h1, rfl⟩⟩
  by_cases hc : c = 0
  case neg =>
    have q1 : (c != 0) = true := by simpa using hc
    have HE := box (HErr.out c hc (fun h => hc (HCG.out.2 h.good)))
    clear hc HErr
    go_wp2_with fail
    refine bodyPost_ret (v := .tuple #[.agg #[.int .i64 0, .slice none 0 0, .slice none 0 0], .int .i64 c]) (by simp [results, Try.results14, go_sem, r0, r1, r2]) rfl ⟨HE.out _, HBset.out _ (HBset.out _ (HBset.out _ HB1.out _ _) _ _) _ _⟩
  have HGood := box (HCG.out.1 hc)
  subst hc
  have hn8 : 1 ≤ n ∧ n ≤ 8 := by have := HGood.out.n1; have := HGood.out.n8; have := HLn.out; omega
  have hnm : n = m := by have := HGood.out.vl; have := HLn.out; have := HLm.out; omega
  subst hnm
  cases d1 : decide (who < 0) with
  | true =>
    have HE := box (HErr.out 1 (by decide) (fun h => by have := h.w0; simp at d1; omega))
    clear HErr
    go_wp2_with fail
    refine bodyPost_ret (v := .tuple #[.agg #[.int .i64 0, .slice none 0 0, .slice none 0 0], .int .i64 1]) (by simp [results, Try.results14, go_sem, r0, r1, r2]) rfl ⟨HE.out _, HBset.out _ (HBset.out _ (HBset.out _ HB1.out _ _) _ _) _ _⟩
  | false =>
  cases d2 : decide ((n : Int) ≤ who) with
  | true =>
    have HE := box (HErr.out 1 (by decide) (fun h => by have := h.w1; have := HLn.out; simp at d2; omega))
    clear HErr
    go_wp2_with fail
    refine bodyPost_ret (v := .tuple #[.agg #[.int .i64 0, .slice none 0 0, .slice none 0 0], .int .i64 1]) (by simp [results, Try.results14, go_sem, r0, r1, r2]) rfl ⟨HE.out _, HBset.out _ (HBset.out _ (HBset.out _ HB1.out _ _) _ _) _ _⟩
  | false =>
  cases d3 : decide (by_ < 0) with
  | true =>
    have HE := box (HErr.out 1 (by decide) (fun h => by have := h.b0; simp at d3; omega))
    clear HErr
    go_wp2_with fail
    refine bodyPost_ret (v := .tuple #[.agg #[.int .i64 0, .slice none 0 0, .slice none 0 0], .int .i64 1]) (by simp [results, Try.results14, go_sem, r0, r1, r2]) rfl ⟨HE.out _, HBset.out _ (HBset.out _ (HBset.out _ HB1.out _ _) _ _) _ _⟩
  | false =>
  cases d4 : decide ((n : Int) ≤ by_) with
  | true =>
    have HE := box (HErr.out 1 (by decide) (fun h => by have := h.b1; have := HLn.out; simp at d4; omega))
    clear HErr
    go_wp2_with fail
    refine bodyPost_ret (v := .tuple #[.agg #[.int .i64 0, .slice none 0 0, .slice none 0 0], .int .i64 1]) (by simp [results, Try.results14, go_sem, r0, r1, r2]) rfl ⟨HE.out _, HBset.out _ (HBset.out _ (HBset.out _ HB1.out _ _) _ _) _ _⟩
  | false =>
  cases d5 : decide (kind < 1) with
  | true =>
    have HE := box (HErr.out 1 (by decide) (fun h => by have := h.k1; simp at d5; omega))
    clear HErr
    go_wp2_with fail
    refine bodyPost_ret (v := .tuple #[.agg #[.int .i64 0, .slice none 0 0, .slice none 0 0], .int .i64 1]) (by simp [results, Try.results14, go_sem, r0, r1, r2]) rfl ⟨HE.out _, HBset.out _ (HBset.out _ (HBset.out _ HB1.out _ _) _ _) _ _⟩
  | false =>
  cases d6 : decide (7 < kind) with
  | true =>
    have HE := box (HErr.out 1 (by decide) (fun h => by have := h.k7; simp at d6; omega))
    clear HErr
    go_wp2_with fail
    refine bodyPost_ret (v := .tuple #[.agg #[.int .i64 0, .slice none 0 0, .slice none 0 0], .int .i64 1]) (by simp [results, Try.results14, go_sem, r0, r1, r2]) rfl ⟨HE.out _, HBset.out _ (HBset.out _ (HBset.out _ HB1.out _ _) _ _) _ _⟩
  | false =>
  obtain ⟨who, rfl⟩ := Int.eq_ofNat_of_zero_le (show 0 ≤ who by simp at d1; omega)
  obtain ⟨by_, rfl⟩ := Int.eq_ofNat_of_zero_le (show 0 ≤ by_ by simp at d3; omega)
  have hwho : who < n := by simp at d2; omega
  have hby : by_ < n := by simp at d4; omega
  have HCan : Box (PactM.Can s kind (who : Int) (by_ : Int)) := ⟨⟨HGood.out, by simp at d5; omega, by simp at d6; omega, by omega, by have := HLn.out; omega, by omega, by have := HLn.out; omega⟩⟩
  have hkind : 1 ≤ kind ∧ kind ≤ 7 := by simp at d5 d6; omega
  have HOk : Box (∀ w' v, PactOut w' w.heap.size (PactM.step s kind who by_) v → PactM.StepPost s kind (who : Int) (by_ : Int) w.heap.size (.returned (.tuple #[v, .int .i64 0])) w') := ⟨fun w' v h => Or.inl ⟨HCan.out, v, rfl, h⟩⟩
  clear HErr
  go_upto_region 7 with (fail)
  have HCv := box (fun wx (h : Below w.heap.size w wx) => cloneInts_pos s.votes vo vc wx (HIv.out.below h (Nat.le_refl _)) (by rw [HLm.out]; omega) (by rw [HLm.out]; omega))
  have HCp := box (fun wx (h : Below w.heap.size w wx) => cloneInts_pos s.parts po pc wx (HIp.out.below h (Nat.le_refl _)) (by rw [HLn.out]; omega) (by rw [HLn.out]; omega))
  rw [HLm.out] at HCv
  rw [HLn.out] at HCp
  have hBpl := HP1.out.lt
  have HSp : Box (∀ wx, Below W1.heap.size W1 wx → wx.cell? ⟨Bp, 0, none⟩ = some (.int .i64 lead) ∧ wx.cell? ⟨Bp, 1, none⟩ = some (.slice vo n vc) ∧ wx.cell? ⟨Bp, 2, none⟩ = some (.slice po n pc)) := ⟨fun wx h => ⟨(HP1.out.after h).cell rfl, (HP1.out.after h).cell rfl, (HP1.out.after h).cell rfl⟩⟩
  go_cut [8] (fun t8 wx => ∃ B gv vc' gp pc', t8 = .pointer (some ⟨B, 0, none⟩) ∧ PactIn wx W1.heap.size B gv vc' gp pc' s ∧ Below W1.heap.size W1 wx)
  case first =>
    go_region_held3 (fun w' => w'.cell? ⟨Bp, 0, none⟩ = some (.int .i64 lead) ∧ w'.cell? ⟨Bp, 1, none⟩ = some (.slice vo n vc) ∧ w'.cell? ⟨Bp, 2, none⟩ = some (.slice po n pc)) (first | exact ⟨y0, y1, y2⟩ | assumption | (refine HSp.out _ ?_; (repeat (first | exact HW9.out | exact HW8.out | exact Below.refl _ _ | refine Below.drew ?_ | refine Below.alloc ?_ (by first | omega | (simp; omega) | simp) _ | refine Below.setCell ?_ (by first | omega | (simp; omega) | simp) _)))) (first
      | (go_at_call 50; have _q := HW8; refine (HCp.out _ (by refine below_tr HB1.out ?_; (repeat (first | exact HW9.out | exact HW8.out | exact Below.refl _ _ | refine Below.drew ?_ | refine Below.alloc ?_ (by first | omega | (simp; omega) | simp) _ | refine Below.setCell ?_ (by first | omega | (simp; omega) | simp) _)))).mono ?_; rintro e w9 ⟨⟨gp, pc9, rfl, hgp1, hgp2, hown9⟩, hb9⟩; have HO9 := box hown9; have HBl9 := box hb9; have HW9 : Box (Below W1.heap.size W1 w9) := ⟨below_tr (by (repeat (first | exact HW9.out | exact HW8.out | exact Below.refl _ _ | refine Below.drew ?_ | refine Below.alloc ?_ (by first | omega | (simp; omega) | simp) _ | refine Below.setCell ?_ (by first | omega | (simp; omega) | simp) _))) hb9⟩; have hs9 := HW9.out.size; have hgv3 : gv < w9.heap.size := Nat.lt_of_lt_of_le hgv2 (by have := hb9.size; (try simp at this); omega); have hgg : gv ≠ gp := (by (try simp at hgp1); omega); have hs98 := hb9.size; (try (have hz9 := hz.out.after hb9; have g0 := hz9.cell (i := 0) rfl; have g1 := hz9.cell (i := 1) rfl; have g2 := hz9.cell (i := 2) rfl; have e0 := hz9.frozen 0; have e1 := hz9.frozen 1; have e2 := hz9.frozen 2; have HZ9 := box hz9; clear hz9)); (try (have hz9 := (Blk.new w8 [.int .i64 0, .slice none 0 0, .slice none 0 0] 27).after hb9; have g0 := hz9.cell (i := 0) rfl; have g1 := hz9.cell (i := 1) rfl; have g2 := hz9.cell (i := 2) rfl; have e0 := hz9.frozen 0; have e1 := hz9.frozen 1; have e2 := hz9.frozen 2; have HZ9 := box hz9; clear hz9)); clear hown9 hb9)
      | (go_at_call 50; refine (HCv.out _ (by refine below_tr HB1.out ?_; (repeat (first | exact HW9.out | exact HW8.out | exact Below.refl _ _ | refine Below.drew ?_ | refine Below.alloc ?_ (by first | omega | (simp; omega) | simp) _ | refine Below.setCell ?_ (by first | omega | (simp; omega) | simp) _)))).mono ?_; rintro e w8 ⟨⟨gv, vc8, rfl, hgv1, hgv2, hown8⟩, hb8⟩; have HO8 := box hown8; have HW8 : Box (Below W1.heap.size W1 w8) := ⟨below_tr (by (repeat (first | exact HW9.out | exact HW8.out | exact Below.refl _ _ | refine Below.drew ?_ | refine Below.alloc ?_ (by first | omega | (simp; omega) | simp) _ | refine Below.setCell ?_ (by first | omega | (simp; omega) | simp) _))) hb8⟩; have hs8 := HW8.out.size; (try (have hz := box ((Blk.new W1 [.int .i64 0, .slice none 0 0, .slice none 0 0] 27).drew.after hb8))); clear hown8 hb8)
      | fail)
    · go_step
      go_step
      go_meet
      exact ⟨_, _, _, _, _, rfl, PactIn.build HLd.out HLm.out HLn.out (Blk.new w9 _ _) ((ownsRow_below HO8.out HBl9.out).alloc _) ((ownsRow_mono HO9.out hs8).alloc _) hgg hs9, HW9.out.alloc hs9 _⟩
    · go_step
      go_step
      go_meet
      exact ⟨_, _, _, _, _, rfl, PactIn.build3 HLd.out HLm.out HLn.out HZ9.out (ownsRow_below (HO8.out.alloc _) HBl9.out) (ownsRow_mono HO9.out (by simp; omega)) hgg hs8, ((HW9.out.setCell (by simpa using hs8) _).setCell (by simpa using hs8) _).setCell (by simpa using hs8) _⟩
    · go_step
      go_step
      go_meet
      exact ⟨_, _, _, _, _, rfl, PactIn.build3 HLd.out HLm.out HLn.out HZ9.out (ownsRow_below (ownsRow_mono HO8.out (by simp)) HBl9.out) (ownsRow_mono HO9.out hs8) hgg (Nat.le_refl _), ((HW9.out.setCell (Nat.le_refl _) _).setCell (Nat.le_refl _) _).setCell (Nat.le_refl _) _⟩
  case rest =>
  obtain ⟨B, gv, vc', gp, pc', rfl, hin, hbw⟩ := hcut
  have HI := box hin; have HBw := box hbw
  have hw2 : who < s.parts.length := by rw [HLn.out]; exact hwho
  have hv2 : who < s.votes.length := by rw [HLm.out]; exact hwho
  have hb2 : by_ < s.parts.length := by rw [HLn.out]; exact hby
  have HBt := box (HBt1.out.after hbw)
  have x0 := HBt.out.cell (i := 0) rfl
  have x1 := HBt.out.cell (i := 1) rfl
  have x2 := HBt.out.cell (i := 2) rfl
  have y0 := hin.cell.cell (i := 0) rfl
  have y1 := hin.cell.cell (i := 1) rfl
  have y2 := hin.cell.cell (i := 2) rfl
  have yp := hin.part hw2
  have fp := hin.parts.frozenAt who
  have f0 := hin.cell.frozen 0
  rw [HLd.out] at y0
  rw [HLn.out] at y2
  rw [HLm.out] at y1
  have HVote : Box (PactM.step s 1 who by_ = if s.parts.getD who 0 = 0 then { s with parts := s.parts.set who 1 } else s) := ⟨rfl⟩
  have HRef : Box (PactM.step s 2 who by_ = if s.parts.getD who 0 = 0 then { s with parts := s.parts.set who 3 } else s) := ⟨rfl⟩
  have HGive : Box (PactM.step s 5 who by_ = if s.lead = 0 then { s with lead := 2 } else s) := ⟨rfl⟩
  obtain ⟨p, Hpp⟩ : ∃ x, Box (s.parts.getD who 0 = x) := ⟨_, ⟨rfl⟩⟩
  rw [Hpp.out] at yp HVote HRef
  rw [HLd.out] at HGive
  have HSt := box (fun x => hin.setPart who x)
  have HSl := box (hin.setLead 2)
  have HBs := box (fun v => hbw.setCell (p := ⟨gp, who, none⟩) hin.bp v)
  have HBl := box (fun v => hbw.setCell (p := ⟨B, 0, none⟩) hin.bB v)
  have Hhear := box (pactHear_any s _ B gv vc' gp pc' who wc hin hw2 hv2)
  have Hmake := box (pactMake_any s _ B gv vc' gp pc' wc hin (by rw [HLm.out]; omega))
  have Htell := box (pactTell_any s _ B gv vc' gp pc' who wc hin hw2)
  have Hask := box (pactAsk_any s _ B gv vc' gp pc' who by_ wc hin hw2 hb2)
  clear hin hbw hw2 hv2 hb2 f1 f2 r0 r1 r2 z0 z1 z2 d1 d2 d3 d4 d5 d6 HCG
  go_upto_block 0 with (fail)
  go_cut [] (fun wx => PactIn wx W1.heap.size B gv vc' gp pc' (PactM.step s kind who by_) ∧ Below W1.heap.size W1 wx)
  case first =>
    by_cases k1 : kind = 1
    · subst k1
      by_cases hp : p = 0
      · subst hp
        go_wp2_with fail
        go_meet
        exact ⟨by rw [HVote.out, if_pos (by simp)]; exact HSt.out 1, HBs.out _⟩
      · have q : (p == 0) = false := by simpa using hp
        go_wp2_with fail
        go_meet
        exact ⟨by rw [HVote.out, if_neg hp]; exact HI.out, HBw.out⟩
    by_cases k2 : kind = 2
    · subst k2
      by_cases hp : p = 0
      · subst hp
        go_wp2_with fail
        go_meet
        exact ⟨by rw [HRef.out, if_pos (by simp)]; exact HSt.out 3, HBs.out _⟩
      · have q : (p == 0) = false := by simpa using hp
        go_wp2_with fail
        go_meet
        exact ⟨by rw [HRef.out, if_neg hp]; exact HI.out, HBw.out⟩
    by_cases k3 : kind = 3
    · subst k3
      go_wp2_with fail
      refine Hhear.out.mono ?_
      rintro e w9 ⟨rfl, h1, h2⟩
      have H1 := box h1; have H2 := box (HBw.out.trans h2)
      clear h1 h2
      go_wp2_with fail
      go_meet
      exact ⟨H1.out, H2.out⟩
    by_cases k4 : kind = 4
    · subst k4
      go_wp2_with fail
      refine Hmake.out.mono ?_
      rintro e w9 ⟨rfl, h1, h2⟩
      have H1 := box h1; have H2 := box (HBw.out.trans h2)
      clear h1 h2
      go_wp2_with fail
      go_meet
      exact ⟨H1.out, H2.out⟩
    by_cases k5 : kind = 5
    · subst k5
      by_cases hl : lead = 0
      · subst hl
        go_wp2_with fail
        go_meet
        exact ⟨by rw [HGive.out, if_pos (by simp)]; exact HSl.out, HBl.out _⟩
      · have q : (lead == 0) = false := by simpa using hl
        go_wp2_with fail
        go_meet
        exact ⟨by rw [HGive.out, if_neg hl]; exact HI.out, HBw.out⟩
    by_cases k6 : kind = 6
    · subst k6
      go_wp2_with fail
      refine Htell.out.mono ?_
      rintro e w9 ⟨rfl, h1, h2⟩
      have H1 := box h1; have H2 := box (HBw.out.trans h2)
      clear h1 h2
      go_wp2_with fail
      go_meet
      exact ⟨H1.out, H2.out⟩
    · obtain rfl : kind = 7 := by omega
      go_wp2_with fail
      refine Hask.out.mono ?_
      rintro e w9 ⟨rfl, h1, h2⟩
      have H1 := box h1; have H2 := box (HBw.out.trans h2)
      clear h1 h2
      go_wp2_with fail
      go_meet
      exact ⟨H1.out, H2.out⟩
  case rest =>
  obtain ⟨hin, hbw⟩ := hcut
  obtain ⟨s2, HS2⟩ : ∃ x, Box (PactM.step s kind who by_ = x) := ⟨_, ⟨rfl⟩⟩
  rw [HS2.out] at hin HOk
  have HRc := box (HR1.out.after hbw)
  have b0 := hin.cell.cell (i := 0) rfl
  have b1 := hin.cell.cell (i := 1) rfl
  have b2 := hin.cell.cell (i := 2) rfl
  have r0 := HRc.out.cell (i := 0) rfl
  have r1 := HRc.out.cell (i := 1) rfl
  have r2 := HRc.out.cell (i := 2) rfl
  have f0 := HRc.out.frozen 0
  have f1 := HRc.out.frozen 1
  have f2 := HRc.out.frozen 2
  have hrl := HR1.out.lt
  have hvB := hin.bv
  have hpB := hin.bp
  have kp : ∀ {X : World} {g c m : Nat} {xs : List Value} (_ : X.ownsRow W1.heap.size 3 1 (.slice (some ⟨g, 0, none⟩) m c) m xs) (_ : W1.heap.size ≤ g) (i : Nat) (v : Value), (X.setCell ⟨Br, i, none⟩ v).ownsRow W1.heap.size 3 1 (.slice (some ⟨g, 0, none⟩) m c) m xs :=
    fun h hg i v => h.kept (grown_set _ ⟨Br, i, none⟩ v) (Or.inr (by simp [Value.ownBlock]; omega))
  have hb1 := HB1.out.size
  have HOut : Box (PactOut (((wc.setCell ⟨Br, 0, none⟩ (.int .i64 s2.lead)).setCell ⟨Br, 1, none⟩ (.slice (some ⟨gv, 0, none⟩) s2.votes.length vc')).setCell ⟨Br, 2, none⟩ (.slice (some ⟨gp, 0, none⟩) s2.parts.length pc')) w.heap.size s2 (.agg #[.int .i64 s2.lead, .slice (some ⟨gv, 0, none⟩) s2.votes.length vc', .slice (some ⟨gp, 0, none⟩) s2.parts.length pc'])) :=
    ⟨⟨gv, vc', gp, pc', rfl, hin.ne, ownsRow_mono (kp (kp (kp hin.votes hvB 0 _) hvB 1 _) hvB 2 _) hb1, ownsRow_mono (kp (kp (kp hin.parts hpB 0 _) hpB 1 _) hpB 2 _) hb1⟩⟩
  have HBf := box (HBset.out _ (HBset.out _ (HBset.out _ (below_tr HB1.out hbw) 0 (.int .i64 s2.lead)) 1 (.slice (some ⟨gv, 0, none⟩) s2.votes.length vc')) 2 (.slice (some ⟨gp, 0, none⟩) s2.parts.length pc'))
  clear hin hbw HVote HRef HGive HSt HSl HBs HBl Hhear Hmake Htell Hask x0 x1 x2 y0 y1 y2 yp fp kp
  go_wp2_with fail
  refine bodyPost_ret (v := .tuple #[.agg #[.int .i64 s2.lead, .slice (some ⟨gv, 0, none⟩) s2.votes.length vc', .slice (some ⟨gp, 0, none⟩) s2.parts.length pc'], .int .i64 0]) (by simp [results, Try.results14, go_sem, r0, r1, r2]) rfl ⟨HOk.out _ _ HOut.out, HBf.out⟩
end Go.Proofs.Ytnolidjjeknmmaa
