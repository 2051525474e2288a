/- beats: a pact after some beats. -/
import Derived.Test.YtnolidjjeknmmaaPactN
import Derived.Test.YtnolidjjeknmmaaRest
import Derived.StillTailTactics
namespace Go.Proofs.Ytnolidjjeknmmaa
open Go.RowKit Go.Lib

structure BeatM where
  kind : Int
  who : Int
  by_ : Int
  deriving Inhabited, DecidableEq
/-- Beats stand where a slice begins. -/
def BeatsAt (w : World) (ao : Option Addr) (l : List BeatM) : Prop :=
  l = [] ∨ ∃ b off, ao = some ⟨b, off, none⟩ ∧ b < w.heap.size ∧ ∀ k (h : k < l.length), w.cell? ⟨b, off + k * 3, none⟩ = some (.int .i64 l[k].kind) ∧ w.cell? ⟨b, off + k * 3 + 1, none⟩ = some (.int .i64 l[k].who) ∧ w.cell? ⟨b, off + k * 3 + 2, none⟩ = some (.int .i64 l[k].by_)
theorem BeatsAt.below {B : Nat} {w w' : World} {ao : Option Addr} {l : List BeatM} (h : BeatsAt w ao l) (hb : Below B w w') (hB : w.heap.size ≤ B) : BeatsAt w' ao l := by
  rcases h with h | ⟨b, off, h1, h2, h3⟩
  · exact Or.inl h
  · refine Or.inr ⟨b, off, h1, Nat.lt_of_lt_of_le h2 hb.size, fun k hk => ?_⟩
    obtain ⟨c0, c1, c2⟩ := h3 k hk
    have hl := Nat.lt_of_lt_of_le h2 hB
    exact ⟨(hb.cell (p := ⟨b, off + k * 3, none⟩) hl).trans c0, (hb.cell (p := ⟨b, off + k * 3 + 1, none⟩) hl).trans c1, (hb.cell (p := ⟨b, off + k * 3 + 2, none⟩) hl).trans c2⟩
def PactM.wrapB (n : Nat) (x : Int) : Nat := (x % (n : Int)).toNat
theorem PactM.wrapB_lt {n : Nat} (h : 1 ≤ n) (x : Int) : PactM.wrapB n x < n := by
  unfold PactM.wrapB
  have h1 := Int.emod_nonneg x (show (n : Int) ≠ 0 by omega)
  have h2 := Int.emod_lt_of_pos x (show (0 : Int) < n by omega)
  omega
def PactM.beat (n : Nat) (s : PactSt) (b : BeatM) : PactSt := if 1 ≤ b.kind ∧ b.kind ≤ 7 then PactM.step s b.kind (PactM.wrapB n b.who) (PactM.wrapB n b.by_) else s
def PactM.play (n : Nat) (l : List BeatM) : PactSt := l.foldl (PactM.beat n) (PactM.fresh n)
theorem PactM.play_take (n : Nat) (l : List BeatM) {k : Nat} (h : k < l.length) : PactM.play n (l.take (k + 1)) = PactM.beat n (PactM.play n (l.take k)) l[k] := by
  unfold PactM.play
  rw [List.take_succ_eq_append_getElem h, List.foldl_append]
  rfl
theorem PactM.beat_good {n : Nat} (h1 : 1 ≤ n) {s : PactSt} (h : PactM.Good s) (hn : s.parts.length = n) (b : BeatM) : PactM.Good (PactM.beat n s b) ∧ (PactM.beat n s b).parts.length = n := by
  unfold PactM.beat
  split
  · exact ⟨PactM.step_good h _ (by rw [hn]; exact PactM.wrapB_lt h1 _) (by rw [hn]; exact PactM.wrapB_lt h1 _), by rw [(PactM.step_len _ _ _ _).1, hn]⟩
  · exact ⟨h, hn⟩
theorem PactM.play_good {n : Nat} (h1 : 1 ≤ n) (h8 : n ≤ 8) (l : List BeatM) : PactM.Good (PactM.play n l) ∧ (PactM.play n l).parts.length = n := by
  unfold PactM.play
  induction l using snoc_ind with
  | nil => exact ⟨PactM.fresh_good h1 h8, by simp [PactM.fresh]⟩
  | snoc l b ih =>
    rw [List.foldl_append]
    exact PactM.beat_good h1 ih.1 ih.2 b
def PactM.BeatsPost (n : Int) (l : List BeatM) (base : Nat) (e : Ending) (w' : World) : Prop :=
  (¬ (1 ≤ n ∧ n ≤ 8) ∧ e = .returned (.tuple #[.agg #[.int .i64 0, .slice none 0 0, .slice none 0 0], .bool false])) ∨
  ((1 ≤ n ∧ n ≤ 8) ∧ ∃ v, e = .returned (.tuple #[v, .bool true]) ∧ PactOut w' base (PactM.play n.toNat l) v)

set_option maxRecDepth 20000 in
set_option maxHeartbeats 8000000 in
theorem beats_any (n : Int) (l : List BeatM) (ao : Option Addr) (cap : Nat) (w : World) (h : BeatsAt w ao l) (hn : l.length ≤ 9000000000000) :
    Calls Try.prog 13 #[.int .i64 n, .slice ao l.length cap] w fun e w' => PactM.BeatsPost n l w.heap.size e w' ∧ Below w.heap.size w w' := by
  have H := box h
  clear h
  go_enter Try.func13, Try.ntmps13
  go_upto_region 1 with (fail)
  refine name_world (fun W => Below w.heap.size w W ∧ Blk W w.heap.size 27 [.int .i64 0, .slice none 0 0, .slice none 0 0]) ⟨(Below.refl _ _).alloc (Nat.le_refl _) _, Blk.new _ _ _⟩ ?_
  rintro W ⟨hbW, hrW⟩
  obtain ⟨Br, HBr⟩ : ∃ x, Box (w.heap.size = x) := ⟨_, ⟨rfl⟩⟩
  rw [HBr.out] at hrW ⊢
  have HBW := box hbW; have HR := box hrW
  clear hbW hrW
  go_wp2_with fail
  refine (pactNew_any n W).mono ?_
  rintro e w1 ⟨hpost, hb1⟩
  have HB1 := box (below_tr HBW.out hb1)
  have HR1 := box (HR.out.after hb1)
  have HW1 := box hb1.size
  clear hb1
  rcases hpost with ⟨hn1, rfl⟩ | ⟨hn1, v, rfl, hout⟩
  · have HP : Box (∀ w', PactM.BeatsPost n l w.heap.size (.returned (.tuple #[.agg #[.int .i64 0, .slice none 0 0, .slice none 0 0], .bool false])) w') := ⟨fun w' => Or.inl ⟨hn1, rfl⟩⟩
    clear hn1
    go_upto_region 2 with (fail)
    refine name_world (fun W => Below w.heap.size w W ∧ Blk W Br 27 [.int .i64 0, .slice none 0 0, .slice none 0 0] ∧ Blk W w1.heap.size 27 [.int .i64 0, .slice none 0 0, .slice none 0 0]) ⟨HB1.out.alloc HB1.out.size _, HR1.out.alloc _, Blk.new _ _ _⟩ ?_
    rintro V ⟨hbV, hrV, hpV⟩
    have r0 := hrV.cell (i := 0) rfl
    have r1 := hrV.cell (i := 1) rfl
    have r2 := hrV.cell (i := 2) rfl
    have f0 := hrV.frozen 0
    have f1 := hrV.frozen 1
    have f2 := hrV.frozen 2
    have p0 := hpV.cell (i := 0) rfl
    have p1 := hpV.cell (i := 1) rfl
    have p2 := hpV.cell (i := 2) rfl
    have HBV := box hbV
    have hBr : w.heap.size ≤ Br := by have := HBr.out; omega
    clear hbV hrV hpV
    go_wp2_with fail
    refine bodyPost_ret (v := .tuple #[.agg #[.int .i64 0, .slice none 0 0, .slice none 0 0], .bool false]) (by simp [results, Try.results13, go_sem, r0, r1, r2]) rfl ⟨HP.out _, ((HBV.out.setCell hBr _).setCell hBr _).setCell hBr _⟩
  obtain ⟨m, rfl⟩ := Int.eq_ofNat_of_zero_le (show 0 ≤ n by omega)
  have hm1 : 1 ≤ m := by omega
  have hm8 : m ≤ 8 := by omega
  have HP : Box (∀ w' v, PactOut w' w.heap.size (PactM.play m l) v → PactM.BeatsPost (m : Int) l w.heap.size (.returned (.tuple #[v, .bool true])) w') := ⟨fun w' v h => Or.inr ⟨hn1, v, rfl, h⟩⟩
  obtain ⟨gv, vc, gp, pc, rfl, hne, hov, hop⟩ := hout.is
  have e0 : (PactM.fresh ((m : Int)).toNat) = PactM.play m (l.take 0) := rfl
  rw [e0] at hov hop ⊢
  have HOv := box hov; have HOp := box hop
  have hpl : (PactM.play m (l.take 0)).parts.length = m := (PactM.play_good hm1 hm8 _).2
  have hvl : (PactM.play m (l.take 0)).votes.length = m := by rw [(PactM.play_good hm1 hm8 _).1.vl, hpl]
  rw [hpl, hvl]
  rw [hpl] at HOp
  rw [hvl] at HOv
  have hl0 : (PactM.play m (l.take 0)).lead = 0 := rfl
  rw [hl0]
  clear hout hov hop e0 hn1
  have hHW1 := HBW.out.size
  have hHW2 := HW1.out
  go_upto_region 2 with (fail)
  refine name_world (fun W => Below w.heap.size w W ∧ Blk W Br 27 [.int .i64 0, .slice none 0 0, .slice none 0 0] ∧ PactIn W w.heap.size w1.heap.size gv vc gp pc (PactM.play m (l.take 0))) ⟨HB1.out.alloc HB1.out.size _, HR1.out.alloc _, PactIn.build hl0 hvl hpl (Blk.new _ _ _) ((ownsRow_mono HOv.out hHW1).alloc _) ((ownsRow_mono HOp.out hHW1).alloc _) hne HB1.out.size⟩ ?_
  rintro V ⟨hbV, hrV, hpV⟩
  obtain ⟨B6, HB6⟩ : ∃ x, Box (w1.heap.size = x) := ⟨_, ⟨rfl⟩⟩
  rw [HB6.out] at hpV ⊢
  have hBB : Br < B6 := by have := HB6.out; have := HR1.out.lt; omega
  have hBr : w.heap.size ≤ Br := by have := HBr.out; omega
  have p2 := hpV.cell.cell (i := 2) rfl
  rw [hpl] at p2
  have HPV := box hpV; have HRV := box hrV; have HBV := box hbV
  have q0 : ((m : Int) != (m : Int)) = false := by simp
  clear hbV hrV hpV hl0 hvl hpl HOv HOp
  go_wp2_with fail
  go_loopw [29] (fun t29 wr => ∃ (k gv vc gp pc : Nat), k ≤ l.length ∧ t29 = .int .i64 (k : Int) ∧ Box (PactIn wr w.heap.size B6 gv vc gp pc (PactM.play m (l.take k))) ∧ Box (Blk wr Br 27 [.int .i64 0, .slice none 0 0, .slice none 0 0]) ∧ Box (Below w.heap.size w wr)) (fun t29 _ => l.length - (intOf t29).toNat)
  case atStart => exact ⟨0, _, _, _, _, Nat.zero_le _, rfl, HPV, HRV, HBV⟩
  case round =>
    obtain ⟨k, gv, vc, gp, pc, hk, rfl, HI, HRr, Hb⟩ := hrel
    by_cases hlt : k < l.length
    case neg =>
      have hkl : l.take k = l := List.take_of_length_le (by omega)
      rw [hkl] at HI
      obtain ⟨s2, HS2⟩ : ∃ x, Box (PactM.play m l = x) := ⟨_, ⟨rfl⟩⟩
      rw [HS2.out] at HI HP
      have b0 := HI.out.cell.cell (i := 0) rfl
      have b1 := HI.out.cell.cell (i := 1) rfl
      have b2 := HI.out.cell.cell (i := 2) rfl
      have r0 := HRr.out.cell (i := 0) rfl
      have r1 := HRr.out.cell (i := 1) rfl
      have r2 := HRr.out.cell (i := 2) rfl
      have f0 := HRr.out.frozen 0
      have f1 := HRr.out.frozen 1
      have f2 := HRr.out.frozen 2
      have nv : Br ≠ gv := fun e => HRr.out.ne_own HI.out.votes (by decide) (by simp [Value.ownBlock, e])
      have np : Br ≠ gp := fun e => HRr.out.ne_own HI.out.parts (by decide) (by simp [Value.ownBlock, e])
      have kp : ∀ {X : World} {g c m : Nat} {xs : List Value} (_ : X.ownsRow w.heap.size 3 1 (.slice (some ⟨g, 0, none⟩) m c) m xs) (_ : Br ≠ g) (i : Nat) (v : Value), (X.setCell ⟨Br, i, none⟩ v).ownsRow w.heap.size 3 1 (.slice (some ⟨g, 0, none⟩) m c) m xs :=
        fun h hg i v => h.kept (grown_set _ ⟨Br, i, none⟩ v) (Or.inr (by simp [Value.ownBlock]; exact fun e => hg e.symm))
      have HOut : Box (PactOut (((wr.setCell ⟨Br, 0, none⟩ (.int .i64 s2.lead)).setCell ⟨Br, 1, none⟩ (.slice (some ⟨gv, 0, none⟩) s2.votes.length vc)).setCell ⟨Br, 2, none⟩ (.slice (some ⟨gp, 0, none⟩) s2.parts.length pc)) w.heap.size s2 (.agg #[.int .i64 s2.lead, .slice (some ⟨gv, 0, none⟩) s2.votes.length vc, .slice (some ⟨gp, 0, none⟩) s2.parts.length pc])) :=
        ⟨⟨gv, vc, gp, pc, rfl, HI.out.ne, kp (kp (kp HI.out.votes nv 0 _) nv 1 _) nv 2 _, kp (kp (kp HI.out.parts np 0 _) np 1 _) np 2 _⟩⟩
      have HBf : Box (Below w.heap.size w (((wr.setCell ⟨Br, 0, none⟩ (.int .i64 s2.lead)).setCell ⟨Br, 1, none⟩ (.slice (some ⟨gv, 0, none⟩) s2.votes.length vc)).setCell ⟨Br, 2, none⟩ (.slice (some ⟨gp, 0, none⟩) s2.parts.length pc))) := ⟨((Hb.out.setCell hBr _).setCell hBr _).setCell hBr _⟩
      clear kp hkl
      go_wp2_with fail
      refine bodyPost_ret (v := .tuple #[.agg #[.int .i64 s2.lead, .slice (some ⟨gv, 0, none⟩) s2.votes.length vc, .slice (some ⟨gp, 0, none⟩) s2.parts.length pc], .bool true]) (by simp [results, Try.results13, go_sem, r0, r1, r2]) rfl ⟨HP.out _ _ HOut.out, HBf.out⟩
    obtain ⟨b, off, rfl, hb, hrow⟩ := ((H.out.below Hb.out (Nat.le_refl _)).resolve_left (by intro h; rw [h] at hlt; simp at hlt))
    obtain ⟨hc0, hc1, hc2⟩ := hrow k hlt
    have HTk := box (PactM.play_take m l hlt)
    have HGk := box (PactM.play_good hm1 hm8 (l.take k))
    have hbs := Hb.out.size
    clear hrow
    generalize l[k] = x at *
    obtain ⟨kind, who, by_⟩ := x
    simp only at hc0 hc1 hc2
    obtain ⟨s, HS⟩ : ∃ x, Box (PactM.play m (l.take k) = x) := ⟨_, ⟨rfl⟩⟩
    rw [HS.out] at HI HTk HGk
    go_upto_region 7 with (fail)
    refine name_world (fun W => Below wr.heap.size wr W ∧ Blk W wr.heap.size 24 [.int .i64 kind, .int .i64 who, .int .i64 by_]) ⟨(Below.refl _ _).alloc (Nat.le_refl _) _, Blk.new _ _ _⟩ ?_
    rintro W3 ⟨hb3, hk3⟩
    have Hb3 := box hb3; have HK3 := box hk3
    have x0 := hk3.cell (i := 0) rfl
    have x1 := hk3.cell (i := 1) rfl
    have x2 := hk3.cell (i := 2) rfl
    have f1 := hk3.frozen 1
    have f2 := hk3.frozen 2
    obtain ⟨Bt, HBt⟩ : ∃ x, Box (wr.heap.size = x) := ⟨_, ⟨rfl⟩⟩
    rw [HBt.out] at x0 x1 x2 f1 f2 HK3 ⊢
    clear hb3 hk3 hc0 hc1 hc2
    have HRw : Box (∀ (x : Int) wz, Calls Try.prog 39 #[.int .i64 x, .int .i64 (m : Int)] wz fun e w' => e = .returned (.int .i64 (PactM.wrapB m x : Nat)) ∧ wz = w') := ⟨fun x wz => rest_any x m wz hm1 (by omega)⟩
    have hBt := HK3.out.lt
    go_cut [] (fun wx => Blk wx Bt 24 [.int .i64 kind, .int .i64 (PactM.wrapB m who : Nat), .int .i64 (PactM.wrapB m by_ : Nat)] ∧ Below wr.heap.size wr wx)
    case first =>
      go_region_with (first | (go_at_call 39; refine (HRw.out _ _).mono ?_; rintro e w9 ⟨rfl, rfl⟩))
      all_goals (go_step; go_step; go_meet; exact ⟨((HK3.out.set 1 (.int .i64 (PactM.wrapB m who : Nat))).set 2 (.int .i64 (PactM.wrapB m by_ : Nat))).drew, ((Hb3.out.setCell (p := ⟨Bt, 1, none⟩) (by have := HBt.out; simp; omega) _).setCell (p := ⟨Bt, 2, none⟩) (by have := HBt.out; simp; omega) _).drew⟩)
    case rest =>
    obtain ⟨hkc, hbc⟩ := hcut
    have HKc := box hkc
    have HBc := box (below_tr Hb.out hbc)
    have Hbc := box hbc
    have z0 := hkc.cell (i := 0) rfl
    have z1 := hkc.cell (i := 1) rfl
    have z2 := hkc.cell (i := 2) rfl
    have hlI := HI.out.cell.lt
    have HIc : Box (PactIn wc w.heap.size B6 gv vc gp pc s) := ⟨⟨HI.out.cell.after hbc, ownsRow_below HI.out.votes hbc, ownsRow_below HI.out.parts hbc, HI.out.ne, HI.out.bB⟩⟩
    have HRc := box (HRr.out.after hbc)
    have y0 := HIc.out.cell.cell (i := 0) rfl
    have y1 := HIc.out.cell.cell (i := 1) rfl
    have y2 := HIc.out.cell.cell (i := 2) rfl
    have hpn := HGk.out.2
    have hwl := PactM.wrapB_lt hm1 who
    have hbl := PactM.wrapB_lt hm1 by_
    have HStep := box (pactStep_any s kind (PactM.wrapB m who : Nat) (PactM.wrapB m by_ : Nat) (some ⟨gv, 0, none⟩) (some ⟨gp, 0, none⟩) vc pc wc (IntsAt.ofOwn HIc.out.votes) (IntsAt.ofOwn HIc.out.parts))
    clear hkc hbc x0 x1 x2 f1 f2 hpn hwl hbl hBt q0
    go_wp2_with fail
    refine HStep.out.mono ?_
    rintro e w5 ⟨hpost, hb5⟩
    have HB5 := box (below_tr HBc.out hb5)
    have HI5 : Box (PactIn w5 w.heap.size B6 gv vc gp pc s) := ⟨⟨HIc.out.cell.after hb5, ownsRow_below HIc.out.votes hb5, ownsRow_below HIc.out.parts hb5, HIc.out.ne, HIc.out.bB⟩⟩
    have HR5 := box (HRc.out.after hb5)
    have HBsz := box (⟨HIc.out.cell.lt, hb5.size, HBc.out.size⟩ : B6 < wc.heap.size ∧ wc.heap.size ≤ w5.heap.size ∧ w.heap.size ≤ wc.heap.size)
    clear hb5 y0 y1 y2 z0 z1 z2
    rcases hpost with ⟨hcan, v, rfl, hout⟩ | ⟨hcan, c, hc, rfl⟩
    · obtain ⟨gv2, vc2, gp2, pc2, rfl, hne2, hov2, hop2⟩ := hout.is
      have HBeat : Box (PactM.play m (l.take (k + 1)) = PactM.step s kind ((PactM.wrapB m who : Nat) : Int).toNat ((PactM.wrapB m by_ : Nat) : Int).toNat) := ⟨by
        rw [HTk.out]
        unfold PactM.beat
        rw [if_pos ⟨hcan.k1, hcan.k7⟩]
        rfl⟩
      obtain ⟨s2, HS2⟩ : ∃ x, Box (PactM.step s kind ((PactM.wrapB m who : Nat) : Int).toNat ((PactM.wrapB m by_ : Nat) : Int).toNat = x) := ⟨_, ⟨rfl⟩⟩
      rw [HS2.out] at hov2 hop2 HBeat ⊢
      have hl2 : s2.parts.length = m ∧ s2.votes.length = m := by
        have h1 := PactM.play_good hm1 hm8 (l.take (k + 1))
        rw [HBeat.out] at h1
        exact ⟨h1.2, by rw [h1.1.vl]; exact h1.2⟩
      rw [hl2.2] at hov2
      rw [hl2.1] at hop2
      rw [hl2.1, hl2.2]
      have HOv := box hov2; have HOp := box hop2; have HL2 := box hl2
      clear hout hov2 hop2 hcan hl2
      go_upto_region 9 with (fail)
      refine name_world (fun X => Below w.heap.size w X ∧ Blk X w5.heap.size 27 [.int .i64 s2.lead, .slice (some ⟨gv2, 0, none⟩) m vc2, .slice (some ⟨gp2, 0, none⟩) m pc2] ∧ Blk X Br 27 [.int .i64 0, .slice none 0 0, .slice none 0 0] ∧
        Blk X B6 27 [.int .i64 s.lead, .slice (some ⟨gv, 0, none⟩) s.votes.length vc, .slice (some ⟨gp, 0, none⟩) s.parts.length pc] ∧ X.ownsRow w.heap.size 3 1 (.slice (some ⟨gv2, 0, none⟩) m vc2) m (intVals s2.votes) ∧ X.ownsRow w.heap.size 3 1 (.slice (some ⟨gp2, 0, none⟩) m pc2) m (intVals s2.parts))
        ⟨HB5.out.alloc HB5.out.size _, Blk.new _ _ _, HR5.out.alloc _, HI5.out.cell.alloc _, (ownsRow_mono HOv.out HBsz.out.2.2).alloc _, (ownsRow_mono HOp.out HBsz.out.2.2).alloc _⟩ ?_
      rintro X ⟨hbX, hnX, hrX, h6X, hvX, hpX⟩
      obtain ⟨Bn, HBn⟩ : ∃ x, Box (w5.heap.size = x) := ⟨_, ⟨rfl⟩⟩
      rw [HBn.out] at hnX ⊢
      have a0 := hnX.cell (i := 0) rfl
      have a1 := hnX.cell (i := 1) rfl
      have a2 := hnX.cell (i := 2) rfl
      have c0 := h6X.cell (i := 0) rfl
      have c1 := h6X.cell (i := 1) rfl
      have c2 := h6X.cell (i := 2) rfl
      have f0 := h6X.frozen 0
      have f1 := h6X.frozen 1
      have f2 := h6X.frozen 2
      have hB6w : w.heap.size ≤ B6 := HI5.out.bB
      have HFin := box (PactIn.build3 (s := s2) rfl HL2.out.2 HL2.out.1 h6X hvX hpX hne2 hB6w)
      have HRf := box (((hrX.other (p := ⟨B6, 0, none⟩) (by simp; omega) (.int .i64 s2.lead)).other (p := ⟨B6, 1, none⟩) (by simp; omega) (.slice (some ⟨gv2, 0, none⟩) m vc2)).other (p := ⟨B6, 2, none⟩) (by simp; omega) (.slice (some ⟨gp2, 0, none⟩) m pc2))
      have HBf := box (((hbX.setCell (p := ⟨B6, 0, none⟩) hB6w (.int .i64 s2.lead)).setCell (p := ⟨B6, 1, none⟩) hB6w (.slice (some ⟨gv2, 0, none⟩) m vc2)).setCell (p := ⟨B6, 2, none⟩) hB6w (.slice (some ⟨gp2, 0, none⟩) m pc2))
      clear hbX hnX hrX h6X hvX hpX
      go_wp2_with fail
      go_roundw
      case rel => exact ⟨k + 1, gv2, vc2, gp2, pc2, hlt, by go_num, by rw [HBeat.out]; exact HFin, HRf, HBf⟩
      case measure => simp [intOf]; omega
    · have HBeat : Box (PactM.play m (l.take (k + 1)) = s) := ⟨by
        rw [HTk.out]
        unfold PactM.beat
        rw [if_neg]
        rintro ⟨k1, k7⟩
        exact hcan ⟨HGk.out.1, k1, k7, by omega, by rw [HGk.out.2]; have := PactM.wrapB_lt hm1 who; omega, by omega, by rw [HGk.out.2]; have := PactM.wrapB_lt hm1 by_; omega⟩⟩
      have q1 : (c == 0) = false := by simpa using hc
      clear hcan hc
      go_wp2_with fail
      go_roundw
      case rel => exact ⟨k + 1, gv, vc, gp, pc, hlt, by go_num, by rw [HBeat.out]; exact ⟨⟨HI5.out.cell.alloc _, HI5.out.votes.alloc _, HI5.out.parts.alloc _, HI5.out.ne, HI5.out.bB⟩⟩, ⟨HR5.out.alloc _⟩, ⟨HB5.out.alloc HB5.out.size _⟩⟩
      case measure => simp [intOf]; omega
end Go.Proofs.Ytnolidjjeknmmaa
