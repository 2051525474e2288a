/- PactEnds is proved for every input: no condition stands ahead of it. -/
import Derived.Test.YtnolidjjeknmmaaLawKit
import Derived.Test.YtnolidjjeknmmaaBeatOpen
import Derived.Test.YtnolidjjeknmmaaPactK
import Derived.Test.YtnolidjjeknmmaaIntCF
namespace Go.Proofs.Ytnolidjjeknmmaa
open Go.RowKit Go.Lib

def PactM.pair : List BeatM := [⟨1, 0, 0⟩, ⟨1, 1, 0⟩]
theorem PactM.pair_play : (PactM.play 2 PactM.pair).parts = [1, 1] := by decide
theorem BeatsAt.pair {w : World} {b : Nat} (h : Blk w b 24 [.int .i64 1, .int .i64 0, .int .i64 0, .int .i64 1, .int .i64 1, .int .i64 0]) : BeatsAt w (some ⟨b, 0, none⟩) PactM.pair :=
  Or.inr ⟨b, 0, rfl, h.lt, fun k hk => by
    match k, hk with
    | 0, _ => exact ⟨h.cell rfl, h.cell rfl, h.cell rfl⟩
    | 1, _ => exact ⟨h.cell rfl, h.cell rfl, h.cell rfl⟩⟩

/-- A pact in a variable, its lists anywhere. -/
structure PactAt (w : World) (B gv vc gp pc : Nat) (s : PactSt) : Prop where
  cell : Blk w B 27 [.int .i64 s.lead, .slice (some ⟨gv, 0, none⟩) s.votes.length vc, .slice (some ⟨gp, 0, none⟩) s.parts.length pc]
  votes : IntsAt w (some ⟨gv, 0, none⟩) s.votes
  parts : IntsAt w (some ⟨gp, 0, none⟩) s.parts
theorem PactAt.after {w w' : World} {B gv vc gp pc : Nat} {s : PactSt} (h : PactAt w B gv vc gp pc s) (hb : Below w.heap.size w w') : PactAt w' B gv vc gp pc s :=
  ⟨h.cell.after hb, h.votes.below hb (Nat.le_refl _), h.parts.below hb (Nat.le_refl _)⟩
theorem PactAt.alloc {w : World} {B gv vc gp pc : Nat} {s : PactSt} (h : PactAt w B gv vc gp pc s) (o : Obj) : PactAt (w.alloc o) B gv vc gp pc s := h.after ((Below.refl _ _).alloc (Nat.le_refl _) _)
theorem IntsAt.grown {w w' : World} {ao : Option Addr} {l : List Int} {row : Option Nat} (h : IntsAt w ao l) (hg : w.grownBy w' row) (hr : ∀ b off, ao = some ⟨b, off, none⟩ → row ≠ some b) : IntsAt w' ao l := by
  rcases h with h | ⟨b, off, h1, h2, h3⟩
  · exact Or.inl h
  · exact Or.inr ⟨b, off, h1, Nat.lt_of_lt_of_le h2 hg.size, fun k hk => hg.cell (h3 k hk) (fun e => hr b off h1 e.symm)⟩
theorem PactAt.set3 {X : World} {B : Nat} {a0 a1 a2 : Value} {gv vc gp pc : Nat} {s : PactSt} (hz : Blk X B 27 [a0, a1, a2]) (hv : IntsAt X (some ⟨gv, 0, none⟩) s.votes) (hp : IntsAt X (some ⟨gp, 0, none⟩) s.parts) (n1 : gv ≠ B) (n2 : gp ≠ B) :
    PactAt (((X.setCell ⟨B, 0, none⟩ (.int .i64 s.lead)).setCell ⟨B, 1, none⟩ (.slice (some ⟨gv, 0, none⟩) s.votes.length vc)).setCell ⟨B, 2, none⟩ (.slice (some ⟨gp, 0, none⟩) s.parts.length pc)) B gv vc gp pc s := by
  have k : ∀ {w : World} {g : Nat} {l : List Int} (_ : IntsAt w (some ⟨g, 0, none⟩) l) (_ : g ≠ B) (i : Nat) (v : Value), IntsAt (w.setCell ⟨B, i, none⟩ v) (some ⟨g, 0, none⟩) l :=
    fun h hne i v => h.grown (grown_set _ ⟨B, i, none⟩ v) (fun b off e hr => by
      simp only [Option.some.injEq, Addr.mk.injEq, and_true] at e
      injection hr with hr
      exact hne (e.1.trans hr.symm))
  exact ⟨((hz.set 0 _).set 1 _).set 2 _, k (k (k hv n1 0 _) n1 1 _) n1 2 _, k (k (k hp n2 0 _) n2 1 _) n2 2 _⟩
theorem PactAt.keep3 {X : World} {B B' : Nat} {gv vc gp pc : Nat} {s : PactSt} (h : PactAt X B' gv vc gp pc s) (hB : B' ≠ B) (n1 : gv ≠ B) (n2 : gp ≠ B) (b0 b1 b2 : Value) :
    PactAt (((X.setCell ⟨B, 0, none⟩ b0).setCell ⟨B, 1, none⟩ b1).setCell ⟨B, 2, none⟩ b2) B' gv vc gp pc s := by
  have k : ∀ {w : World} {g : Nat} {l : List Int} (_ : IntsAt w (some ⟨g, 0, none⟩) l) (_ : g ≠ B) (i : Nat) (v : Value), IntsAt (w.setCell ⟨B, i, none⟩ v) (some ⟨g, 0, none⟩) l :=
    fun h hne i v => h.grown (grown_set _ ⟨B, i, none⟩ v) (fun b off e hr => by
      simp only [Option.some.injEq, Addr.mk.injEq, and_true] at e
      injection hr with hr
      exact hne (e.1.trans hr.symm))
  exact ⟨((h.cell.other (p := ⟨B, 0, none⟩) hB _).other (p := ⟨B, 1, none⟩) hB _).other (p := ⟨B, 2, none⟩) hB _, k (k (k h.votes n1 0 _) n1 1 _) n1 2 _, k (k (k h.parts n2 0 _) n2 1 _) n2 2 _⟩
theorem IntsAt.ltB {w : World} {g off : Nat} {l : List Int} (h : IntsAt w (some ⟨g, off, none⟩) l) (h0 : 0 < l.length) : g < w.heap.size := by
  rcases h with h | ⟨b, o, h1, h2, _⟩
  · rw [h] at h0; simp at h0
  · simp only [Option.some.injEq, Addr.mk.injEq, and_true] at h1
    rw [h1.1]; exact h2
theorem PactAt.keep1 {X : World} {B B' : Nat} {gv vc gp pc : Nat} {s : PactSt} (h : PactAt X B' gv vc gp pc s) (hB : B' ≠ B) (n1 : gv ≠ B) (n2 : gp ≠ B) (b0 : Value) : PactAt (X.setCell ⟨B, 0, none⟩ b0) B' gv vc gp pc s := by
  have k : ∀ {w : World} {g : Nat} {l : List Int} (_ : IntsAt w (some ⟨g, 0, none⟩) l) (_ : g ≠ B) (i : Nat) (v : Value), IntsAt (w.setCell ⟨B, i, none⟩ v) (some ⟨g, 0, none⟩) l :=
    fun h hne i v => h.grown (grown_set _ ⟨B, i, none⟩ v) (fun b off e hr => by
      simp only [Option.some.injEq, Addr.mk.injEq, and_true] at e
      injection hr with hr
      exact hne (e.1.trans hr.symm))
  exact ⟨h.cell.other (p := ⟨B, 0, none⟩) hB _, k h.votes n1 0 _, k h.parts n2 0 _⟩
theorem pactEnds_tells (x : Int) (B : Nat) (W : World) (h : W.cell? ⟨B, 0, none⟩ = some (.int .i64 x)) : Tells 26 #[.pointer (some ⟨B, 0, none⟩)] (fun k => k != x) W := by
  intro y
  cases q : (y == x) with
  | true =>
    have q2 : (y != x) = false := by simp at q ⊢; exact q
    go_enter Try.func26, Try.ntmps26
    go_wp2_with fail
    go_ret
    exact ⟨by rw [q2]; rfl, rfl⟩
  | false =>
    have q2 : (y != x) = true := by simp at q ⊢; exact q
    go_enter Try.func26, Try.ntmps26
    go_wp2_with fail
    go_ret
    exact ⟨by rw [q2]; rfl, rfl⟩

/-- A beat that can be: what Step hands out. -/
theorem pactStep_can (s : PactSt) (kind : Int) (who by_ gv vc gp pc : Nat) (w : World) (hg : PactM.Good s) (hk : 1 ≤ kind ∧ kind ≤ 7) (hw : who < s.parts.length) (hb : by_ < s.parts.length) (hv : IntsAt w (some ⟨gv, 0, none⟩) s.votes) (hp : IntsAt w (some ⟨gp, 0, none⟩) s.parts) :
    Calls Try.prog 14 #[.agg #[.int .i64 s.lead, .slice (some ⟨gv, 0, none⟩) s.votes.length vc, .slice (some ⟨gp, 0, none⟩) s.parts.length pc], .agg #[.int .i64 kind, .int .i64 (who : Int), .int .i64 (by_ : Int)]] w
      fun e w' => (∃ gv' vc' gp' pc', e = .returned (.tuple #[.agg #[.int .i64 (PactM.step s kind who by_).lead, .slice (some ⟨gv', 0, none⟩) (PactM.step s kind who by_).votes.length vc', .slice (some ⟨gp', 0, none⟩) (PactM.step s kind who by_).parts.length pc'], .int .i64 0]) ∧
        w.heap.size ≤ gv' ∧ w.heap.size ≤ gp' ∧ IntsAt w' (some ⟨gv', 0, none⟩) (PactM.step s kind who by_).votes ∧ IntsAt w' (some ⟨gp', 0, none⟩) (PactM.step s kind who by_).parts) ∧ Below w.heap.size w w' := by
  refine (pactStep_any s kind (who : Int) (by_ : Int) (some ⟨gv, 0, none⟩) (some ⟨gp, 0, none⟩) vc pc w hv hp).mono ?_
  rintro e w' ⟨hpost, hb'⟩
  obtain ⟨v, rfl, hout⟩ := (hpost.resolve_right (by rintro ⟨h, _⟩; exact h ⟨hg, hk.1, hk.2, by omega, by omega, by omega, by omega⟩)).2
  obtain ⟨gv', vc', gp', pc', rfl, _, h1, h2⟩ := hout.is
  exact ⟨⟨gv', vc', gp', pc', rfl, (h1.lt gv' rfl).1, (h2.lt gp' rfl).1, IntsAt.ofOwn h1, IntsAt.ofOwn h2⟩, hb'⟩

/-- The rounds of asking. -/
def PactM.rounds (s : PactSt) : Nat → PactSt
  | 0 => s
  | r + 1 => PactM.sweep (PactM.rounds s r) s.parts.length s.parts.length
theorem PactM.rounds_good {s : PactSt} (h : PactM.Good s) : ∀ r, PactM.Good (PactM.rounds s r) ∧ (PactM.rounds s r).parts.length = s.parts.length
  | 0 => ⟨h, rfl⟩
  | r + 1 => by
    obtain ⟨h1, h2⟩ := PactM.rounds_good h r
    have h3 := PactM.sweep_good h1 (PactM.rounds s r).parts.length (Nat.le_refl _)
    rw [h2] at h3
    exact ⟨h3.1, h3.2⟩
theorem PactM.rounds_end {s : PactSt} (h : PactM.Good s) : (PactM.AllReady s → (1 : Int) ∈ (PactM.rounds s 2).parts) ∧ (¬ PactM.AllReady s → ¬ (1 : Int) ∈ (PactM.rounds s 2).parts) := by
  obtain ⟨g1, l1⟩ := PactM.rounds_good h 1
  constructor
  · intro ha
    have e1 : PactM.rounds s 1 = s := PactM.sweep_stuck s ha _
    have e2 : PactM.rounds s 2 = s := by
      show PactM.sweep (PactM.rounds s 1) _ _ = s
      rw [e1]; exact PactM.sweep_stuck s ha _
    rw [e2]
    exact PactM.mem_getD.2 ⟨0, by have := h.n1; omega, ha 0 (by have := h.n1; omega)⟩
  · intro hn hm
    have hex : ∃ k0, k0 < s.parts.length ∧ s.parts.getD k0 0 ≠ 1 := by
      by_cases hc : ∃ k0, k0 < s.parts.length ∧ s.parts.getD k0 0 ≠ 1
      · exact hc
      · exfalso
        apply hn
        intro i hi
        by_cases e : s.parts.getD i 0 = 1
        · exact e
        · exact absurd ⟨i, hi, e⟩ hc
    obtain ⟨k0, hk, h1⟩ := hex
    obtain ⟨j, hj, e⟩ := PactM.mem_getD.1 hm
    have hl2 := (PactM.rounds_good h 2).2
    have ha : (PactM.rounds s 1).parts.getD j 0 ≠ 1 := PactM.sweep_ends h hk h1 s.parts.length (Nat.le_refl _) j (by omega)
    have hb := PactM.sweep_keeps g1 j ha (PactM.rounds s 1).parts.length (Nat.le_refl _)
    rw [l1] at hb
    exact hb e

set_option maxRecDepth 20000 in
set_option maxHeartbeats 16000000 in
theorem pactEnds_calls (n : Int) (l : List BeatM) (ao : Option Addr) (cap : Nat) (w : World) (h : BeatsAt w ao l) (hn : l.length ≤ 9000000000000) :
    Calls Try.prog 6 #[.int .i64 n, .slice ao l.length cap] w fun e w' => e = .returned (.bool true) ∧ Below w.heap.size w w' := by
  have H := box h
  clear h
  go_enter Try.func6, Try.ntmps6
  go_wp2_with fail
  refine (beats_any 2 PactM.pair (some ⟨w.heap.size, 0, none⟩) 2 _ (BeatsAt.pair (Blk.new w _ _)) (by decide)).mono ?_
  rintro e w1 ⟨hpost, hb1⟩
  obtain ⟨v, rfl, hout⟩ := (hpost.resolve_left (by rintro ⟨h, _⟩; exact h (by decide))).2
  obtain ⟨gv, vc, gp, pc, rfl, _, hov, hop⟩ := hout.is
  have hGood1 : PactM.Good (PactM.play 2 PactM.pair) := (PactM.play_good (n := 2) (by decide) (by decide) PactM.pair).1
  obtain ⟨s1, HS1⟩ : ∃ x, Box (PactM.play ((2 : Int)).toNat PactM.pair = x) := ⟨_, ⟨rfl⟩⟩
  have e1 : PactM.play 2 PactM.pair = s1 := HS1.out
  have hp1 : s1.parts = [1, 1] := by rw [← e1]; exact PactM.pair_play
  rw [e1] at hGood1
  rw [HS1.out] at hov hop ⊢
  have HB1 := box (((Below.refl _ _).alloc (Nat.le_refl _) (.cells #[.int .i64 1, .int .i64 0, .int .i64 0, .int .i64 1, .int .i64 1, .int .i64 0] 24)).trans (hb1.mono (by simp)))
  have HOv := box hov; have HOp := box hop
  have HG1 := box hGood1; have HP1 := box hp1
  clear hpost hb1 hout hov hop e1 hp1 hGood1
  go_upto_region 2 with (fail)
  refine name_world (fun W => Below w.heap.size w W ∧ PactAt W w1.heap.size gv vc gp pc s1) ⟨HB1.out.alloc HB1.out.size _, ⟨Blk.new _ _ _, IntsAt.ofOwn (HOv.out.alloc _), IntsAt.ofOwn (HOp.out.alloc _)⟩⟩ ?_
  rintro W2 ⟨hb2, hk2⟩
  obtain ⟨B5, HB5⟩ : ∃ x, Box (w1.heap.size = x) := ⟨_, ⟨rfl⟩⟩
  rw [HB5.out] at hk2 ⊢
  have HB2 := box hb2; have HK2 := box hk2
  have x0 := hk2.cell.cell (i := 0) rfl
  have x1 := hk2.cell.cell (i := 1) rfl
  have x2 := hk2.cell.cell (i := 2) rfl
  clear hb2 hk2 HOv HOp
  go_wp2_with fail
  refine (pactStuck_any s1 (some ⟨gv, 0, none⟩) (some ⟨gp, 0, none⟩) vc pc _ HK2.out.votes HK2.out.parts).mono ?_
  rintro e w3 ⟨hpost, hb3⟩
  have hall : PactM.AllReady s1 := by
    intro i hi
    rw [HP1.out] at hi ⊢
    match i, hi with
    | 0, _ => rfl
    | 1, _ => rfl
  obtain ⟨so, sc, rfl, hat⟩ := ((hpost.resolve_left (by rintro ⟨h, _⟩; exact h HG1.out)).resolve_left (by rintro ⟨_, h, _⟩; exact h hall)).2.2
  have hl2 : s1.parts.length = 2 := by rw [HP1.out]; rfl
  rw [hl2] at hat ⊢
  have HB3 := box (below_tr HB2.out hb3)
  have HAT := box hat
  clear hb3 hpost hall hl2 hat x0 x1 x2
  go_wp2_with fail
  refine (equalInts_same (PactM.idx 2) so (some ⟨w3.heap.size, 0, none⟩) sc 2 _ (HAT.out.below ((Below.refl _ _).alloc (Nat.le_refl _) _) (Nat.le_refl _)) (Or.inr ⟨w3.heap.size, 0, rfl, by simp, fun k hk => by
    have hb := Blk.new w3 (intVals (PactM.idx 2)) 3
    rw [Nat.zero_add]
    exact hb.cell (intVals_get hk)⟩) (by decide)).mono ?_
  rintro e w4 ⟨rfl, n4, rfl⟩
  have HB4 : Box (Below w.heap.size w ((w3.alloc (.cells #[.int .i64 0, .int .i64 1] 3)).drewN n4)) := ⟨(HB3.out.alloc HB3.out.size _).trans ⟨rfl, rfl, rfl, Nat.le_refl _, fun _ _ => rfl⟩⟩
  generalize (w3.alloc (.cells #[.int .i64 0, .int .i64 1] 3)).drewN n4 = W4 at *
  go_wp2_with fail
  refine (beats_any n l ao cap _ (H.out.below HB4.out (Nat.le_refl _)) hn).mono ?_
  rintro e w5 ⟨hpost, hb5⟩
  have HB5' := box (below_tr HB4.out hb5)
  clear hb5
  rcases hpost with ⟨hn1, rfl⟩ | ⟨hn1, v, rfl, hout⟩
  · clear hn1
    go_wp2_with fail
    go_ret
    exact ⟨rfl, HB5'.out.alloc HB5'.out.size _⟩
  obtain ⟨m, rfl⟩ := Int.eq_ofNat_of_zero_le (show 0 ≤ n by omega)
  have hm18 : 1 ≤ m ∧ m ≤ 8 := by omega
  have hGood := PactM.play_good (n := m) (by omega) (by omega) l
  obtain ⟨gv2, vc2, gp2, pc2, rfl, _, hov, hop⟩ := hout.is
  obtain ⟨s, HS⟩ : ∃ x, Box (PactM.play ((m : Int)).toNat l = x) := ⟨_, ⟨rfl⟩⟩
  have hsm : PactM.play m l = s := HS.out
  rw [hsm] at hGood
  rw [HS.out] at hov hop ⊢
  have HG := box hGood.1
  have HLn := box hGood.2
  have HOv := box hov; have HOp := box hop
  clear hout hov hop hGood hn1 hsm
  go_upto_region 11 with (fail)
  have hlv := (HOv.out.lt gv2 rfl).2
  have hlp := (HOp.out.lt gp2 rfl).2
  have HPa : Box (PactAt (w5.alloc (.cells #[.int .i64 s.lead, .slice (some ⟨gv2, 0, none⟩) s.votes.length vc2, .slice (some ⟨gp2, 0, none⟩) s.parts.length pc2] 27)) w5.heap.size gv2 vc2 gp2 pc2 s) := ⟨⟨Blk.new _ _ _, IntsAt.ofOwn (HOv.out.alloc _), IntsAt.ofOwn (HOp.out.alloc _)⟩⟩
  refine name_world (fun W => Below w.heap.size w W ∧ PactAt W w5.heap.size gv2 vc2 gp2 pc2 s ∧ PactAt W (w5.heap.size + 1) gv2 vc2 gp2 pc2 s) ⟨(HB5'.out.alloc HB5'.out.size _).alloc (by have := HB5'.out.size; simp; omega) _, HPa.out.alloc _, ⟨Blk.new' (by simp) _ _, (HPa.out.alloc _).votes, (HPa.out.alloc _).parts⟩⟩ ?_
  rintro W6 ⟨hb6, h9, h11⟩
  obtain ⟨B9, HB9⟩ : ∃ x, Box (w5.heap.size = x) := ⟨_, ⟨rfl⟩⟩
  obtain ⟨B11, HB11⟩ : ∃ x, Box (w5.heap.size + 1 = x) := ⟨_, ⟨rfl⟩⟩
  rw [HB9.out] at h9 hlv hlp
  rw [HB11.out] at h11 ⊢
  rw [HB9.out]
  have hlt9 : B9 < B11 := by have := HB9.out; have := HB11.out; omega
  have HB6 := box hb6; have H9 := box h9; have H11 := box h11
  have hBw : w.heap.size ≤ B11 := by have := HB5'.out.size; have := HB11.out; omega
  have x2 := h11.cell.cell (i := 2) rfl
  rw [HLn.out] at x2
  clear hb6 h9 h11 HPa HOv HOp
  go_wp2_with fail
  go_loopw [53] (fun t53 wr => ∃ (i gv vc gp pc : Nat), i ≤ m ∧ t53 = .int .i64 (i : Int) ∧ Box (PactAt wr B11 gv vc gp pc (PactM.told s i)) ∧ Box (PactAt wr B9 gv2 vc2 gp2 pc2 s) ∧ Box (Below w.heap.size w wr)) (fun t53 _ => m - (intOf t53).toNat)
  case atStart => exact ⟨0, _, _, _, _, Nat.zero_le _, rfl, H11, H9, HB6⟩
  case round =>
    obtain ⟨i, gv, vc, gp, pc, hi, rfl, HQ, H9r, Hb⟩ := hrel
    by_cases hlt : i < m
    case pos =>
      have HGi := box (PactM.told_good HG.out i (by rw [HLn.out]; omega))
      have hst : PactM.told s (i + 1) = PactM.step (PactM.told s i) 6 i 0 := rfl
      have hlen : (PactM.told s i).parts.length = m := by rw [HGi.out.2]; exact HLn.out
      have HS0 := pactStep_can (PactM.told s i) 6 i 0 gv vc gp pc wr HGi.out.1 (by omega) (by rw [hlen]; exact hlt) (by rw [hlen]; omega) HQ.out.votes HQ.out.parts
      rw [show ((0 : Nat) : Int) = 0 from rfl, ← hst] at HS0
      have HS2 := box HS0
      obtain ⟨q2, Hq2⟩ : ∃ x, Box (PactM.told s (i + 1) = x) := ⟨_, ⟨rfl⟩⟩
      rw [Hq2.out] at HS2
      obtain ⟨q, Hq⟩ : ∃ x, Box (PactM.told s i = x) := ⟨_, ⟨rfl⟩⟩
      rw [Hq.out] at HS2 HQ
      have x0 := HQ.out.cell.cell (i := 0) rfl
      have x1 := HQ.out.cell.cell (i := 1) rfl
      have x2 := HQ.out.cell.cell (i := 2) rfl
      clear HS0 hst hlen
      go_wp2_with fail
      refine HS2.out.mono ?_
      rintro e w6 ⟨⟨gv', vc', gp', pc', rfl, hg1, hg2, hi1, hi2⟩, hb6⟩
      have HQ6 := box (HQ.out.cell.after hb6)
      have H96 := box (H9r.out.after hb6)
      have HB6' := box (below_tr Hb.out hb6)
      have hl11 := HQ.out.cell.lt
      have HF := box (PactAt.set3 (s := q2) (vc := vc') (pc := pc') HQ6.out hi1 hi2 (by omega) (by omega))
      have HK := box (H96.out.keep3 (B := B11) (by omega) (by omega) (by omega) (.int .i64 q2.lead) (.slice (some ⟨gv', 0, none⟩) q2.votes.length vc') (.slice (some ⟨gp', 0, none⟩) q2.parts.length pc'))
      have HBf := box (((HB6'.out.setCell (p := ⟨B11, 0, none⟩) hBw (.int .i64 q2.lead)).setCell (p := ⟨B11, 1, none⟩) hBw (.slice (some ⟨gv', 0, none⟩) q2.votes.length vc')).setCell (p := ⟨B11, 2, none⟩) hBw (.slice (some ⟨gp', 0, none⟩) q2.parts.length pc'))
      have c0 := HQ6.out.cell (i := 0) rfl
      have c1 := HQ6.out.cell (i := 1) rfl
      have c2 := HQ6.out.cell (i := 2) rfl
      have f0 := HQ6.out.frozen 0
      have f1 := HQ6.out.frozen 1
      have f2 := HQ6.out.frozen 2
      clear hb6 hi1 hi2 x0 x1 x2 hg1 hg2
      go_wp2_with fail
      go_roundw
      case rel => exact ⟨i + 1, gv', vc', gp', pc', hlt, by go_num, by rw [Hq2.out]; exact HF, HK, HBf⟩
      case measure => simp [intOf]; omega
    case neg =>
    have him : i = m := by omega
    rw [him] at HQ
    have HTold : Box (s.lead ≠ 0 → ∀ x ∈ (PactM.told s m).parts, x = if s.lead = 2 then 3 else 2) := ⟨fun hl x hx => by
      obtain ⟨j, hj, e⟩ := PactM.mem_getD.1 hx
      have hgl := (PactM.told_good HG.out m (by rw [HLn.out]; exact Nat.le_refl _)).2
      rw [← e]
      exact (PactM.told_end HG.out hl m (by rw [HLn.out]; exact Nat.le_refl _)).2 j (by have := HLn.out; omega)⟩
    obtain ⟨q, Hq⟩ : ∃ x, Box (PactM.told s m = x) := ⟨_, ⟨rfl⟩⟩
    have hql : q.parts.length = m := by rw [← Hq.out, (PactM.told_good HG.out m (by rw [HLn.out]; exact Nat.le_refl _)).2]; exact HLn.out
    rw [Hq.out] at HQ HTold
    have HQl := box hql
    clear hql him
    have hs9 := Hb.out.size
    have y0 := H9r.out.cell.cell (i := 0) rfl
    obtain ⟨lead, HLd⟩ : ∃ x, Box (s.lead = x) := ⟨_, ⟨rfl⟩⟩
    rw [HLd.out] at y0 HTold
    go_upto_region 17 with (fail)
    refine name_world (fun W => Below w.heap.size w W ∧ PactAt W B9 gv2 vc2 gp2 pc2 s ∧ PactAt W B11 gv vc gp pc q ∧ Blk W wr.heap.size 3 [.int .i64 2]) ⟨Hb.out.alloc hs9 _, H9r.out.alloc _, HQ.out.alloc _, Blk.new _ _ _⟩ ?_
    rintro W7 ⟨hb7, h97, h117, h137⟩
    have hl13 := HQ.out.cell.lt
    obtain ⟨B13, HB13⟩ : ∃ x, Box (wr.heap.size = x) := ⟨_, ⟨rfl⟩⟩
    rw [HB13.out] at h137 hl13 ⊢
    have hB13w : w.heap.size ≤ B13 := by have := HB13.out; omega
    have z0 := h97.cell.cell (i := 0) rfl
    rw [HLd.out] at z0
    have g0 := h137.cell (i := 0) rfl
    have gf := h137.frozen 0
    have HB7 := box hb7; have H97 := box h97; have H117 := box h117; have H137 := box h137
    clear hb7 h97 h117 h137 y0
    have hvl : 0 < q.votes.length ∧ 0 < q.parts.length := by
      have hg := (PactM.told_good HG.out m (by rw [HLn.out]; exact Nat.le_refl _)).1
      rw [Hq.out] at hg
      have := hg.vl; have := hg.n1
      omega
    have hgv13 : gv < B13 := by have := HQ.out.votes.ltB hvl.1; have := HB13.out; omega
    have hgp13 : gp < B13 := by have := HQ.out.parts.ltB hvl.2; have := HB13.out; omega
    clear hvl
    go_upto_if 66 with (fail)
    go_cut [] (fun wx => Blk wx B13 3 [.int .i64 (if lead = 2 then 3 else 2)] ∧ PactAt wx B9 gv2 vc2 gp2 pc2 s ∧ PactAt wx B11 gv vc gp pc q ∧ Below w.heap.size w wx)
    case first =>
      by_cases hl : lead = 2
      · subst hl
        go_wp2_with fail
        go_meet
        exact ⟨H137.out.set 0 (.int .i64 3), H97.out.keep1 (by omega) (by omega) (by omega) _, H117.out.keep1 (by omega) (by omega) (by omega) _, HB7.out.setCell (p := ⟨B13, 0, none⟩) hB13w _⟩
      · have q1 : (lead == 2) = false := by simpa using hl
        go_wp2_with fail
        go_meet
        exact ⟨by rw [if_neg hl]; exact H137.out, H97.out, H117.out, HB7.out⟩
    case rest =>
    obtain ⟨h13, h9, h11, hb⟩ := hcut
    have z0 := h9.cell.cell (i := 0) rfl
    rw [HLd.out] at z0
    have z2 := h11.cell.cell (i := 2) rfl
    have H13c := box h13; have H9c := box h9; have H11c := box h11; have HBc := box hb
    clear h13 h9 h11 hb g0 gf
    go_upto_region 19 with (fail)
    go_cut [75] (fun t wx => t = .bool false ∧ PactAt wx B9 gv2 vc2 gp2 pc2 s ∧ PactAt wx B11 gv vc gp pc q ∧ Below w.heap.size w wx)
    case first =>
      by_cases hl : lead = 0
      · subst hl
        go_wp2_with fail
        go_meet
        exact ⟨rfl, H9c.out, H11c.out, HBc.out⟩
      · have q1 : (lead != 0) = true := by simpa using hl
        have HAny : Box (q.parts.any (fun k => k != (if lead = 2 then (3 : Int) else 2)) = false) := ⟨by
          rw [List.any_eq_false]
          intro x hx
          rw [HTold.out hl x hx]; simp⟩
        have HCf := box (containsFunc_ints q.parts (some ⟨gp, 0, none⟩) pc 26 #[.pointer (some ⟨B13, 0, none⟩)] _ wc H11c.out.parts (by rw [HQl.out]; omega) (pactEnds_tells _ B13 wc (H13c.out.cell (i := 0) rfl)) (enters_fn Try.func26 (by kernel_rfl) rfl))
        rw [HAny.out] at HCf
        clear hl
        go_wp2_with fail
        refine HCf.out.mono ?_
        rintro e w9 ⟨rfl, rfl⟩
        go_wp2_with fail
        go_meet
        exact ⟨rfl, H9c.out, H11c.out, HBc.out⟩
    case rest =>
    obtain ⟨rfl, h9, h11, hb⟩ := hcut
    have k0 := h9.cell.cell (i := 0) rfl
    have k1 := h9.cell.cell (i := 1) rfl
    have k2 := h9.cell.cell (i := 2) rfl
    have H9d := box h9; have H11d := box h11; have HBd := box hb
    clear h9 h11 hb z0 z2
    go_wp2_with fail
    refine (pactStuck_any s (some ⟨gv2, 0, none⟩) (some ⟨gp2, 0, none⟩) vc2 pc2 _ H9d.out.votes H9d.out.parts).mono ?_
    rintro e w8 ⟨hpost, hb8⟩
    obtain ⟨so, kn, sc, rfl, hkn⟩ : ∃ so kn sc, e = .returned (.tuple #[.slice so kn sc, .int .i64 0]) ∧ (0 < kn ↔ PactM.AllReady s) := by
      rcases hpost with ⟨h, _⟩ | ⟨_, h, rfl⟩ | ⟨_, h, so, sc, rfl, _⟩
      · exact absurd HG.out h
      · exact ⟨_, _, _, rfl, by simp [h]⟩
      · exact ⟨_, _, _, rfl, by have := HG.out.n1; simp [h]; omega⟩
    have HKn := box hkn
    have H98 := box (H9d.out.after hb8)
    have HQ6 := box (H11d.out.cell.after hb8)
    have HB8 := box (below_tr HBd.out hb8)
    have k0 := H98.out.cell.cell (i := 0) rfl
    have k1 := H98.out.cell.cell (i := 1) rfl
    have k2 := H98.out.cell.cell (i := 2) rfl
    have c0 := HQ6.out.cell (i := 0) rfl
    have c1 := HQ6.out.cell (i := 1) rfl
    have c2 := HQ6.out.cell (i := 2) rfl
    have f0 := HQ6.out.frozen 0
    have f1 := HQ6.out.frozen 1
    have f2 := HQ6.out.frozen 2
    have HF := box (PactAt.set3 (s := s) (vc := vc2) (pc := pc2) HQ6.out H98.out.votes H98.out.parts (by omega) (by omega))
    have HBf := box (((HB8.out.setCell (p := ⟨B11, 0, none⟩) hBw (.int .i64 s.lead)).setCell (p := ⟨B11, 1, none⟩) hBw (.slice (some ⟨gv2, 0, none⟩) s.votes.length vc2)).setCell (p := ⟨B11, 2, none⟩) hBw (.slice (some ⟨gp2, 0, none⟩) s.parts.length pc2))
    clear hb8 hpost hkn
    go_upto_region 25 with (fail)
    generalize ((w8.setCell ⟨B11, 0, none⟩ (.int .i64 s.lead)).setCell ⟨B11, 1, none⟩ (.slice (some ⟨gv2, 0, none⟩) s.votes.length vc2)).setCell ⟨B11, 2, none⟩ (.slice (some ⟨gp2, 0, none⟩) s.parts.length pc2) = W9 at *
    clear k0 k1 k2 c0 c1 c2 f0 f1 f2
    go_wp2_with fail
    go_loopw [84] (fun t84 wr => ∃ (r gv vc gp pc : Nat), r ≤ 2 ∧ t84 = .int .i64 (r : Int) ∧ Box (PactAt wr B11 gv vc gp pc (PactM.rounds s r)) ∧ Box (Below w.heap.size w wr)) (fun t84 _ => 2 - (intOf t84).toNat)
    case atStart => exact ⟨0, _, _, _, _, Nat.zero_le _, rfl, HF, HBf⟩
    case round =>
      obtain ⟨r, gv, vc, gp, pc, hr, rfl, HQ, Hb⟩ := hrel
      obtain ⟨gR, lR⟩ := PactM.rounds_good HG.out r
      have HGR := box gR
      have HLR := box (lR.trans HLn.out)
      have x2 := HQ.out.cell.cell (i := 2) rfl
      by_cases hlt : r < 2
      case neg =>
        have hr2 : r = 2 := by omega
        have HRE := box (PactM.rounds_end HG.out)
        rw [hr2] at HQ HLR x2
        have HC := box (contains_ints (PactM.rounds s 2).parts 1 (some ⟨gp, 0, none⟩) pc wr HQ.out.parts (by rw [HLR.out]; omega))
        obtain ⟨bo, Hbo⟩ : ∃ x, Box (decide ((1 : Int) ∈ (PactM.rounds s 2).parts) = x) := ⟨_, ⟨rfl⟩⟩
        have Hk2 : Box (decide (0 < kn) = bo) := ⟨by
          rw [← Hbo.out, Bool.eq_iff_iff, decide_eq_true_iff, decide_eq_true_iff, HKn.out]
          constructor
          · exact HRE.out.1
          · intro h
            by_cases hc : PactM.AllReady s
            · exact hc
            · exact absurd h (HRE.out.2 hc)⟩
        rw [Hbo.out] at HC
        clear gR lR hr2
        cases bo with
        | true =>
          have hk3 : decide (0 < kn) = true := Hk2.out
          go_wp2_with fail
          refine HC.out.mono ?_
          rintro e w9 ⟨rfl, rfl⟩
          go_wp2_with fail
          go_ret
          exact ⟨by simp, Hb.out⟩
        | false =>
          have hk3 : decide (0 < kn) = false := Hk2.out
          go_wp2_with fail
          refine HC.out.mono ?_
          rintro e w9 ⟨rfl, rfl⟩
          go_wp2_with fail
          go_ret
          exact ⟨by simp, Hb.out⟩
      have hnext : PactM.rounds s (r + 1) = PactM.sweep (PactM.rounds s r) m m := by
        show PactM.sweep (PactM.rounds s r) s.parts.length s.parts.length = _
        rw [HLn.out]
      obtain ⟨R, HR⟩ : ∃ x, Box (PactM.rounds s r = x) := ⟨_, ⟨rfl⟩⟩
      rw [HR.out] at HQ HGR HLR hnext x2
      have HNext := box hnext
      rw [HLR.out] at x2
      have HSw : Box (∀ i, i ≤ m → PactM.Good (PactM.sweep R m i) ∧ (PactM.sweep R m i).parts.length = m) := ⟨fun i hi => by
        have h1 := PactM.sweep_good HGR.out i (by rw [HLR.out]; exact hi)
        rw [HLR.out] at h1
        exact h1⟩
      have d85 : decide ((r : Int) < 2) = true := by simp; omega
      clear gR lR hnext
      go_wp2_with fail
      go_loopw [89] (fun t89 wr => ∃ (i gv vc gp pc : Nat), i ≤ m ∧ t89 = .int .i64 (i : Int) ∧ Box (PactAt wr B11 gv vc gp pc (PactM.sweep R m i)) ∧ Box (Below w.heap.size w wr)) (fun t89 _ => m - (intOf t89).toNat)
      case atStart => exact ⟨0, _, _, _, _, Nat.zero_le _, rfl, HQ, Hb⟩
      case round =>
        obtain ⟨i, gv, vc, gp, pc, hi, rfl, HQ, Hb⟩ := hrel
        by_cases hlti : i < m
        case neg =>
          have him : i = m := by omega
          rw [him] at HQ
          go_wp2_with fail
          go_roundw
          case rel => exact ⟨r + 1, gv, vc, gp, pc, by omega, by go_num, by rw [HNext.out]; exact HQ, Hb⟩
          case measure => simp [intOf]; omega
        have hsn : PactM.sweep R m (i + 1) = PactM.row (PactM.sweep R m i) i m := rfl
        have HSn := box hsn
        obtain ⟨gX, lX⟩ := HSw.out i (by omega)
        obtain ⟨X, HX⟩ : ∃ x, Box (PactM.sweep R m i = x) := ⟨_, ⟨rfl⟩⟩
        rw [HX.out] at HQ HSn gX lX
        have HRow : Box (∀ k, k ≤ m → PactM.Good (PactM.row X i k) ∧ (PactM.row X i k).parts.length = m) := ⟨fun k hk => by
          have h1 := PactM.row_good gX (i := i) (by rw [lX]; exact hlti) k (by rw [lX]; exact hk)
          rw [lX] at h1
          exact h1⟩
        have x2 := HQ.out.cell.cell (i := 2) rfl
        rw [lX] at x2
        clear hsn gX lX
        go_wp2_with fail
        go_loopw [95] (fun t95 wr => ∃ (k gv vc gp pc : Nat), k ≤ m ∧ t95 = .int .i64 (k : Int) ∧ Box (PactAt wr B11 gv vc gp pc (PactM.row X i k)) ∧ Box (Below w.heap.size w wr)) (fun t95 _ => m - (intOf t95).toNat)
        case atStart => exact ⟨0, _, _, _, _, Nat.zero_le _, rfl, HQ, Hb⟩
        case round =>
          obtain ⟨k, gv, vc, gp, pc, hk, rfl, HQ, Hb⟩ := hrel
          by_cases hltk : k < m
          case neg =>
            have hkm : k = m := by omega
            rw [hkm] at HQ
            go_wp2_with fail
            go_roundw
            case rel => exact ⟨i + 1, gv, vc, gp, pc, by omega, by go_num, by rw [HSn.out]; exact HQ, Hb⟩
            case measure => simp [intOf]; omega
          obtain ⟨gY, lY⟩ := HRow.out k (by omega)
          have HS0 := pactStep_can (PactM.row X i k) 7 i k gv vc gp pc wr gY (by omega) (by rw [lY]; exact hlti) (by rw [lY]; exact hltk) HQ.out.votes HQ.out.parts
          have hst : PactM.row X i (k + 1) = PactM.step (PactM.row X i k) 7 i k := rfl
          rw [← hst] at HS0
          have HS2 := box HS0
          obtain ⟨q2, Hq2⟩ : ∃ x, Box (PactM.row X i (k + 1) = x) := ⟨_, ⟨rfl⟩⟩
          rw [Hq2.out] at HS2
          obtain ⟨Y, HY⟩ : ∃ x, Box (PactM.row X i k = x) := ⟨_, ⟨rfl⟩⟩
          rw [HY.out] at HS2 HQ
          have x0 := HQ.out.cell.cell (i := 0) rfl
          have x1 := HQ.out.cell.cell (i := 1) rfl
          have x2 := HQ.out.cell.cell (i := 2) rfl
          clear HS0 hst gY lY
          go_wp2_with fail
          refine HS2.out.mono ?_
          rintro e w6 ⟨⟨gv', vc', gp', pc', rfl, hg1, hg2, hi1, hi2⟩, hb6⟩
          have HQ6 := box (HQ.out.cell.after hb6)
          have HB6' := box (below_tr Hb.out hb6)
          have hl11 := HQ.out.cell.lt
          have HF := box (PactAt.set3 (s := q2) (vc := vc') (pc := pc') HQ6.out hi1 hi2 (by omega) (by omega))
          have HBf := box (((HB6'.out.setCell (p := ⟨B11, 0, none⟩) hBw (.int .i64 q2.lead)).setCell (p := ⟨B11, 1, none⟩) hBw (.slice (some ⟨gv', 0, none⟩) q2.votes.length vc')).setCell (p := ⟨B11, 2, none⟩) hBw (.slice (some ⟨gp', 0, none⟩) q2.parts.length pc'))
          have c0 := HQ6.out.cell (i := 0) rfl
          have c1 := HQ6.out.cell (i := 1) rfl
          have c2 := HQ6.out.cell (i := 2) rfl
          have f0 := HQ6.out.frozen 0
          have f1 := HQ6.out.frozen 1
          have f2 := HQ6.out.frozen 2
          clear hb6 hi1 hi2 x0 x1 x2 hg1 hg2
          go_wp2_with fail
          go_roundw
          case rel => exact ⟨k + 1, gv', vc', gp', pc', hltk, by go_num, by rw [Hq2.out]; exact HF, HBf⟩
          case measure => simp [intOf]; omega
namespace lawPactEnds
open Go.ChangeShapes Go.WideShapes Go.ChangeAt Go.RowKit Go.ChangeMaps

set_option maxRecDepth 100000 in
theorem lifted (os : Os) (started : os.Started) (H : Type) (enc : TypeId × Value → H) :
    ReturnsInHanded {} Try.checked os 6 .any (Rows.pactEndsSpec.pre6 enc Try.prog Try.f6 [] false) (Rows.pactEndsSpec.post enc Try.prog Try.f6 false true false false) := by
  refine LawKit.law_lifted started (by kernel_rfl) Try.func6 rfl
    (fun ds h => by
      match ds, h with
      | [_, _], _ => rfl)
    rfl Try.underlying4 (by intro t ht; exact of_decide_eq_true (p := Try.prog.readableRec t = true ∧ t < Try.prog.types.size) (by revert t ht; decide +kernel))
    (ChangeSpec.witness6 (enc := enc) (C := Try.checked) false ⟨#[], #[.int .i64 0, .slice none 0 0], []⟩ 8 (by kernel_rfl) (by kernel_rfl) (by kernel_rfl) (by kernel_rfl)) ?_
  intro W base args ds ps hval hA hsz hlt hfz
  have hA' := hA
  rw [Try.params6] at hA hval
  obtain ⟨v0, vs0, d0, ds0, p0, q0, hargs, rfl, rfl, h0, r0⟩ := trodAll_cons hA
  obtain ⟨v1, vs1, d1, ds1, p1, q1, rfl, rfl, rfl, h1, r1⟩ := trodAll_cons r0
  obtain ⟨rfl, rfl, rfl⟩ := trodAll_nil r1
  obtain rfl : args = #[v0, v1] := by cases args; simp_all
  go_open 0 n
  obtain ⟨ao, cap, l, rfl, hat, hcap, hcap2⟩ := open_beats (hval 1 _ _ rfl rfl) h1 (Open.weights_bound hsz (j := 1) (by rw [Try.params6]; rfl) rfl)
  refine (pactEnds_calls n l ao cap W hat (by omega)).mono ?_
  rintro e W' ⟨rfl, hb⟩
  exact ⟨rfl, hb⟩

theorem proved : Rows.PactEndsSaid :=
  OpenClaim.holds_of_wide 6 Try.f6 rfl rfl rfl rfl rfl rfl rfl ⟨rfl, rfl, rfl, rfl, rfl⟩ rfl rfl rfl rfl rfl (by kernel_rfl) Try.func6 (by kernel_rfl)
    (of_decide_eq_true (by kernel_rfl)) (by unfold Func.isWrapper; first | (rw [if_pos (by decide +kernel)]; kernel_rfl) | (rw [if_neg (by decide +kernel)]; exact ⟨rfl, rfl⟩))
    (fun os started H enc _ => lifted os started H enc)
end lawPactEnds
end Go.Proofs.Ytnolidjjeknmmaa
