/- order.Of: what it makes of a run. -/
import Derived.Test.YtgkclgmekbgjmaaOfT
import Derived.Deep.RegionHeld3
import Derived.Deep.LoopGhost
import Derived.Deep.AppendLies
namespace Go.Proofs.Ytgkclgmekbgjmaa
open Go.RowKit Go.Lib

/-- Behind k operations. -/
structure OfM.Go (w : World) (l : List OpM) (ds : List DidM) (M N O V R k : Nat) (wr : World) : Prop where
  at_ : ∃ bt v vr vt, OfM.OW w M N O V R bt (OfM.run l ds k) v vr vt wr ∧ ∀ x : Nat, (x : Int) ∉ (OfM.run l ds k).has → vr x = .slice none 0 0
set_option maxRecDepth 20000 in
set_option maxHeartbeats 16000000 in
theorem orderOf_any (l : List OpM) (ds : List DidM) (ao bo : Option Addr) (cap cap' : Nat) (w : World) (h : OpsAt w ao l) (h' : DidsAt w bo ds) (hd : ds.length = l.length) (hc : RunM.check l = 0) :
    Calls Try.prog 24 #[.slice ao l.length cap, .slice bo l.length cap'] w (OfM.Post l ds w) := by
  obtain ⟨i0, hi0, hz0, hz1, hz2⟩ := info_partsO Try.infoIntsO
  have H := box h; have H' := box h'; have Hd := box hd
  obtain ⟨hl200, hgo, hbad⟩ := RunM.check_ok hc
  have HGo := box hgo; have HBad := box hbad
  have HBnd := box (OfM.Bnd.run hl200 hd hbad)
  have HDone := box (OfM.done_at (l := l) (ds := ds) hd)
  have HRun : Box (∀ k (h : k < l.length) (h2 : k < ds.length), OfM.run l ds (k + 1) = OfM.step (OfM.run l ds k) l[k] ds[k]) := ⟨fun k h h2 => OfM.run_succ h h2⟩
  clear h h' hd hc hgo hbad
  obtain ⟨n, HN⟩ : ∃ n, Box (l.length = n) := ⟨_, ⟨rfl⟩⟩
  rw [HN.out] at hl200 ⊢
  have q1 : ((n : Int) == (n : Int)) = true := by simp
  have q2 : ((n : Int) != (n : Int)) = false := by simp
  have q3 : decide (200 < n) = false := decide_eq_false (by omega)
  have q4 : decide ((200 : Int) < (n : Int)) = false := decide_eq_false (by omega)
  have hmm := @run_makeMap Try.prog
  go_enter Try.func24, Try.ntmps24
  go_upto_region 5 with (fail)
  refine name_world (fun W => Below w.heap.size w W ∧ W.heap.size = w.heap.size + 3 ∧ Blk W w.heap.size 25 [.slice none 0 0, .slice none 0 0] ∧ PtMap W (w.heap.size + 1) [] ∧ Blk W (w.heap.size + 2) 133 (Tab 12 fun _ => .slice none 0 0)) ?_ ?_
  · refine ⟨(((Below.refl _ _).alloc (Nat.le_refl _) _).alloc (by simp) _).alloc (by simp; omega) _, by simp, ((Blk.new w _ _).alloc _).alloc _, ?_, ?_⟩
    · have h1 := PtMap.new (w.alloc (.cells #[.slice none 0 0, .slice none 0 0] 25))
      rw [show (w.alloc (.cells #[.slice none 0 0, .slice none 0 0] 25)).heap.size = w.heap.size + 1 by simp] at h1
      exact h1.after ((Below.refl _ _).alloc (Nat.le_refl _) _)
    · exact Blk.new' (by simp) (Tab 12 fun _ => .slice none 0 0) _
  rintro W ⟨hb, hz, hr, hm, hn⟩
  have hmk := run_make_tab (P := Try.prog) W 23 31 i0 (.slice none 0 0) Try.underlying23 hi0 hz0 hz1 rfl 20 (by rw [hz2]; omega) (by omega)
  rw [hz] at hmk
  obtain ⟨W3, HW3⟩ : ∃ x, Box (W.alloc (.cells (Tab 20 (fun _ => (Value.slice none 0 0))).toArray 31) = x) := ⟨_, ⟨rfl⟩⟩
  have HR3 : Box (Below w.heap.size w W3 ∧ W3.heap.size = w.heap.size + 4 ∧ Blk W3 w.heap.size 25 [.slice none 0 0, .slice none 0 0] ∧ PtMap W3 (w.heap.size + 1) [] ∧ Blk W3 (w.heap.size + 2) 133 (Tab 12 fun _ => .slice none 0 0) ∧ Blk W3 (w.heap.size + 3) 31 (Tab 20 fun _ => .slice none 0 0)) := ⟨by
    rw [← HW3.out]
    exact ⟨hb.alloc (by omega) _, by simp [hz], hr.alloc _, hm.after ((Below.refl _ _).alloc (Nat.le_refl _) _), hn.alloc _, Blk.new' hz (Tab 20 fun _ => .slice none 0 0) _⟩⟩
  rw [HW3.out] at hmk
  have hz3 := HR3.out.2.1
  have hmk' : (Instr.makeSlice 23 (.int .i64 20) (.int .i64 20)).run Try.prog W = .ok (.slice (some ⟨w.heap.size + 3, 0, none⟩) 20 20) W3 := hmk
  clear hb hz hr hm hn HW3 hmk hi0 hz0 hz1 hz2
  go_upto_region 6 with (fail)
  refine name_world (fun X => OfM.Go w l ds (w.heap.size + 1) (w.heap.size + 1 + 1) (w.heap.size + 4) (w.heap.size + 3) w.heap.size 0 X) ?_ ?_
  · have h1 := HR3.out.1.alloc (by omega) (.cells #[.slice none 0 0, .slice (some ⟨w.heap.size + 3, 0, none⟩) 20 20] 25)
    refine ⟨fun _ => 0, fun _ => .slice none 0 0, fun _ => .slice none 0 0, .slice none 0 0, ⟨h1, ⟨by omega, by omega, by omega, by omega, by omega, by omega⟩, HR3.out.2.2.2.1.after ((Below.refl _ _).alloc (Nat.le_refl _) _), ⟨List.nodup_nil, fun t ht => by cases ht⟩, HR3.out.2.2.2.2.1.alloc _, Blk.new' hz3 [.slice none 0 0, .slice (some ⟨w.heap.size + 3, 0, none⟩) 20 20] _, HR3.out.2.2.2.2.2.alloc _, HR3.out.2.2.1.alloc _, Fam.nil _ _ _ _ _, fun x hx => (by cases hx), fun x _ hx => (by cases hx), Fam.nil _ _ _ _ _, World.ownsRow_nil _ _ _ _, fun x hx => (by cases hx), fun t ht => by cases ht⟩, fun _ _ => rfl⟩
  generalize w.heap.size + 1 + 1 = N at *
  generalize w.heap.size + 1 = M at *
  generalize w.heap.size + 4 = O at *
  generalize w.heap.size + 3 = V at *
  intro W4 hW4
  have HG0 := box hW4
  clear hW4 HR3 hz3 hmk' hmm
  obtain ⟨R, HRe⟩ : ∃ R, Box (w.heap.size = R) := ⟨_, ⟨rfl⟩⟩
  rw [HRe.out] at HG0 ⊢
  go_wp2_with fail
  go_loopw [29] (fun t29 wr => ∃ k : Nat, k ≤ n ∧ t29 = .int .i64 (k : Int) ∧ Box (OfM.Go w l ds M N O V R k wr)) (fun t29 _ => n - (RowKit.intOf t29).toNat)
  case atStart => exact ⟨0, Nat.zero_le _, rfl, HG0⟩
  case round =>
    obtain ⟨k, hk, rfl, HK⟩ := hrel
    clear HG0
    by_cases hkt : k < n
    · have hkl : k < l.length := by rw [HN.out]; exact hkt
      have hkd : k < ds.length := by rw [Hd.out]; exact hkl
      obtain ⟨bt, v, vr, vt, how, hnil⟩ := HK.out.at_
      obtain ⟨b, off, hao, hbl, hrow⟩ := (H.out.below how.below (Nat.le_refl _)).resolve_left (by intro h; rw [h] at hkl; simp at hkl)
      subst hao
      obtain ⟨c0, c1, c2⟩ := hrow k hkl
      obtain ⟨db, doff, hdb, hdl, hdrow⟩ := H'.out.resolve_left (by intro h; rw [h] at hkd; simp at hkd)
      subst hdb
      have hdk := hdrow k hkd
      have hbk := RunM.bad_zero (HBad.out _ (List.getElem_mem hkl))
      have HSt := box (HRun.out k hkl hkd)
      have HNd : Box (l[k].tx ∉ (OfM.run l ds k).done) := ⟨fun hin => by
        obtain ⟨i, hi, h1, h2, h3⟩ := HDone.out k (by omega) _ hin
        have := OfM.go_one HGo.out hkl h1 (by rw [h2])
        omega⟩
      have HBn := box (HBnd.out k (by omega))
      have HDk : Box (∀ wx, Below w.heap.size w wx → wx.cell? ⟨db, doff + k * 2, none⟩ = some (.bool ds[k].ok) ∧ wx.cell? ⟨db, doff + k * 2 + 1, none⟩ = some (.int .i64 ds[k].from_)) := ⟨fun wx hb => ⟨(hb.cell (p := ⟨db, doff + k * 2, none⟩) hdl).trans hdk.1, (hb.cell (p := ⟨db, doff + k * 2 + 1, none⟩) hdl).trans hdk.2⟩⟩
      obtain ⟨st, HStE⟩ : ∃ st, Box (OfM.run l ds k = st) := ⟨_, ⟨rfl⟩⟩
      rw [HStE.out] at HSt HNd HBn how hnil
      obtain ⟨o, HOe⟩ : ∃ o, Box (l[k] = o) := ⟨_, ⟨rfl⟩⟩
      obtain ⟨d, HDe⟩ : ∃ d, Box (ds[k] = d) := ⟨_, ⟨rfl⟩⟩
      rw [HOe.out] at c0 c1 c2 hbk HSt HNd
      rw [HDe.out] at HSt HDk
      obtain ⟨tx, kind, item⟩ := o
      obtain ⟨dok, dfr⟩ := d
      simp only at c0 c1 c2 hbk HNd HDk
      obtain ⟨htx0, htx1, hit0, hit1, hk1, hk4, _⟩ := hbk
      obtain ⟨x, rfl⟩ := Int.eq_ofNat_of_zero_le htx0
      obtain ⟨it, rfl⟩ := Int.eq_ofNat_of_zero_le hit0
      have hx : x < 12 := by omega
      have hit : it < 20 := by omega
      have HOW := box how; have HNil := box hnil
      clear hrow hdrow hdk how hnil hbl HK htx0 hit0
      go_upto_region 9 with (fail)
      refine name_world (fun X => OfM.OW w M N O V R bt st v vr vt X ∧ Blk X wr.heap.size 53 [.int .i64 (x : Int), .int .i64 kind, .int .i64 (it : Int)]) ⟨HOW.out.alloc _, Blk.new _ _ _⟩ ?_
      generalize wr.heap.size = C at *
      rintro W5 ⟨how, hC⟩
      have HOW5 := box how; have HC5 := box hC
      have e0 := hC.cell (i := 0) rfl
      have e1 := hC.cell (i := 1) rfl
      have e2 := hC.cell (i := 2) rfl
      have g1 : decide ((x : Int) < 0) = false := decide_eq_false (by omega)
      have g2 : decide ((12 : Int) ≤ (x : Int)) = false := decide_eq_false (by omega)
      have g3 : decide ((it : Int) < 0) = false := decide_eq_false (by omega)
      have g4 : decide ((20 : Int) ≤ (it : Int)) = false := decide_eq_false (by omega)
      clear how hC c0 c1 c2 HOW hdl
      go_upto_region 11 with (fail)
      go_cut [57] (fun s57 wx => ∃ b0 : Bool, s57 = .bool b0 ∧ (b0 = true ↔ (x : Int) ∉ st.has) ∧ W5 = wx)
      case first =>
        by_cases hin : (x : Int) ∈ st.has
        · have hlk := HOW5.out.mp.lookup_some (by rw [List.map_map]; exact (List.map_id st.has).symm ▸ HOW5.out.keys.1) (List.mem_map.2 ⟨(x : Int), hin, rfl⟩)
          have Hin := box hin
          clear hin g1 g2 g3 g4
          go_wp2_with fail
          go_meet
          exact ⟨false, rfl, ⟨fun h => (by cases h), fun h => absurd Hin.out h⟩, rfl⟩
        · have hlk := HOW5.out.mp.lookup_none (k := (x : Int)) (fun p hp e => by
            obtain ⟨t, ht, rfl⟩ := List.mem_map.1 hp
            exact hin (by rw [e]; exact ht))
          have Hin := box hin
          clear hin g1 g2 g3 g4
          go_wp2_with fail
          go_meet
          exact ⟨true, rfl, ⟨fun _ => Hin.out, fun _ => rfl⟩, rfl⟩
      case rest =>
      obtain ⟨b0, rfl, hb0, rfl⟩ := hcut
      have HB0 := box hb0
      clear hb0
      go_step
      go_cut [] (fun wx => ∃ bt v vr vt, OfM.OW w M N O V R bt (OfM.begin st (x : Int)) v vr vt wx ∧ (∀ y : Nat, (y : Int) ∉ (OfM.begin st (x : Int)).has → vr y = .slice none 0 0) ∧ Blk wx C 53 [.int .i64 (x : Int), .int .i64 kind, .int .i64 (it : Int)])
      case first =>
        by_cases hin : (x : Int) ∈ st.has
        · obtain rfl : b0 = false := by
            cases b0 with
            | false => rfl
            | true => exact absurd hin (HB0.out.1 rfl)
          have HB : Box (OfM.begin st (x : Int) = st) := ⟨by unfold OfM.begin; rw [if_pos hin]⟩
          clear hin g1 g2 g3 g4
          go_wp2_with fail
          go_meet
          exact ⟨bt, v, vr, vt, by rw [HB.out]; exact HOW5.out, by rw [HB.out]; exact HNil.out, HC5.out⟩
        · have hne : ∀ p ∈ st.has.map (fun t => (t, bt t.toNat)), (x : Int) ≠ p.1 := fun p hp e => by
            obtain ⟨t, ht, rfl⟩ := List.mem_map.1 hp
            exact hin (by rw [e]; exact ht)
          obtain rfl : b0 = true := HB0.out.2 hin
          obtain ⟨w7, hup, hm7, hg7⟩ := (HOW5.out.mp.after ((Below.refl _ _).alloc (Nat.le_refl _) (.cells #[.int .i64 (x : Int), .slice none 0 0] 30))).update (v := W5.heap.size) hne
          have HB : Box (OfM.begin st (x : Int) = { st with has := st.has ++ [(x : Int)] }) := ⟨by unfold OfM.begin; rw [if_neg hin]⟩
          have HN7 : Box (OfM.OW w M N O V R (upd bt x W5.heap.size) { st with has := st.has ++ [(x : Int)] } v vr vt w7) := ⟨HOW5.out.new hx hin (HNil.out x hin) hm7 hg7⟩
          have HC7 : Box (Blk w7 C 53 [.int .i64 (x : Int), .int .i64 kind, .int .i64 (it : Int)]) := ⟨(HC5.out.alloc _).grown hg7 (fun e => HOW5.out.mp.ne HC5.out (by injection e))⟩
          have HNil7 : Box (∀ y : Nat, (y : Int) ∉ ({ st with has := st.has ++ [(x : Int)] } : OfSt).has → vr y = .slice none 0 0) := ⟨fun y hy => HNil.out y (fun h => hy (List.mem_append_left _ h))⟩
          clear hin hne hm7 hg7 g1 g2 g3 g4
          go_wp2_with fail
          go_meet
          exact ⟨_, v, vr, vt, by rw [HB.out]; exact HN7.out, by rw [HB.out]; exact HNil7.out, HC7.out⟩
      case rest =>
      obtain ⟨bt, v, vr, vt, how, hnil, hC⟩ := hcut
      obtain ⟨s, HS⟩ : ∃ s, Box (OfM.begin st (x : Int) = s) := ⟨_, ⟨rfl⟩⟩
      have HSx : Box ((x : Int) ∈ s.has ∧ s.done = st.done ∧ s.rows = st.rows ∧ s.reads = st.reads) := ⟨by
        rw [← HS.out]
        unfold OfM.begin
        split
        · rename_i h1; exact ⟨h1, rfl, rfl, rfl⟩
        · exact ⟨by simp, rfl, rfl, rfl⟩⟩
      have HSp : Box (OfM.run l ds (k + 1) = if kind = 1 ∧ dfr ≠ (x : Int) then { s with reads := upd s.reads x (s.reads x ++ [⟨(it : Int), dfr⟩]) }
          else if kind = 2 ∧ (it : Int) ∉ s.rows x then { s with rows := upd s.rows x (s.rows x ++ [(it : Int)]) }
          else if kind = 3 ∧ dok = true then { s with rows := OfM.put (x : Int) s.rows (s.rows x), done := s.done ++ [(x : Int)] } else s) := ⟨by
        rw [HSt.out, ← HS.out]; unfold OfM.step; simp only [Int.toNat_natCast]⟩
      rw [HS.out] at how hnil
      have HOW := box how; have HNl := box hnil; have HC := box hC
      have HBs : Box (OfM.Bnd s k) := ⟨⟨fun y => by rw [HSx.out.2.2.2]; exact HBn.out.rd y, fun y hy => by rw [HSx.out.2.2.1]; exact HBn.out.wr y hy, fun y hy => by rw [HSx.out.2.2.1]; exact HBn.out.it y hy, fun r hr => by rw [HSx.out.2.2.1]; exact HBn.out.v r hr, by rw [HSx.out.2.1]; exact HBn.out.d⟩⟩
      have HNs : Box ((x : Int) ∉ s.done) := ⟨by rw [HSx.out.2.1]; exact HNd.out⟩
      clear how hnil hC HSt HS HOW5 HC5 e0 e1 e2 g1 g2 g3 g4 HNil HBn HNd
      have e0 := HC.out.cell (i := 0) rfl
      have e1 := HC.out.cell (i := 1) rfl
      have e2 := HC.out.cell (i := 2) rfl
      obtain ⟨d0, d1⟩ := HDk.out _ HOW.out.below
      go_step
      go_upto_region 13 with (fail)
      go_cut [65] (fun s65 wz => ∃ b : Bool, s65 = .bool b ∧ (b = true ↔ kind = 1 ∧ dfr ≠ (x : Int)) ∧ ∃ nq, wz = wc.drewN nq)
      case first =>
        by_cases hk1 : kind = 1
        · have f1 : (kind == 1) = true := by simpa using hk1
          by_cases hf : dfr = (x : Int)
          · have f2 : (dfr != (x : Int)) = false := by simpa using hf
            have Hf := box hf
            clear hf hk1
            go_quiet (fail)
            go_wp2_with fail
            go_meet
            exact ⟨false, rfl, ⟨fun h => (by cases h), fun h => absurd Hf.out h.2⟩, _, rfl⟩
          · have f2 : (dfr != (x : Int)) = true := by simpa using hf
            have Hf := box hf; have Hk := box hk1
            clear hf hk1
            go_quiet (fail)
            go_wp2_with fail
            go_meet
            exact ⟨true, rfl, ⟨fun _ => ⟨Hk.out, Hf.out⟩, fun _ => rfl⟩, _, rfl⟩
        · have f1 : (kind == 1) = false := by simpa using hk1
          have Hk := box hk1
          clear hk1
          go_quiet (fail)
          go_wp2_with fail
          go_meet
          exact ⟨false, rfl, ⟨fun h => (by cases h), fun h => absurd h.1 Hk.out⟩, _, rfl⟩
      case rest =>
      obtain ⟨b1, rfl, hb1, nq, rfl⟩ := hcut
      have HB1 := box hb1
      have HOW1 := box (HOW.out.drew nq); have HC1 := box (HC.out.drewN nq)
      clear hb1 e0 e1 e2 d0 d1 HOW HC
      generalize wc.drewN nq = W1 at *
      have e0 := HC1.out.cell (i := 0) rfl
      have e1 := HC1.out.cell (i := 1) rfl
      have e2 := HC1.out.cell (i := 2) rfl
      obtain ⟨d0, d1⟩ := HDk.out _ HOW1.out.below
      cases b1 with
      | true =>
        have HGn : Box (OfM.run l ds (k + 1) = { s with reads := upd s.reads x (s.reads x ++ [⟨(it : Int), dfr⟩]) }) := ⟨by rw [HSp.out, if_pos (HB1.out.1 rfl)]⟩
        obtain ⟨ra, rc, hrv⟩ := own_shape (HOW1.out.fr.own x hx)
        have HRv := box hrv
        obtain ⟨rl, HRL⟩ : ∃ rl, Box ((s.reads x).length = rl) := ⟨_, ⟨rfl⟩⟩
        obtain ⟨B, HBe⟩ : ∃ B, Box (bt x = B) := ⟨_, ⟨rfl⟩⟩
        have HOwn : Box (W1.ownsRow w.heap.size 27 2 (.slice ra rl rc) rl (egVals (s.reads x))) := ⟨by
          have h1 := HOW1.out.fr.own x hx
          rw [hrv, HRL.out] at h1
          exact h1⟩
        have HTb : Box (Blk W1 B 30 [.int .i64 (x : Int), .slice ra rl rc]) := ⟨by
          have h1 := (HOW1.out.tb x HSx.out.1).2
          rw [hrv, HRL.out, HBe.out] at h1
          exact h1⟩
        have HCx : Box (∀ wx, W1.grownBy wx (Value.slice ra rl rc).ownBlock → wx.cell? ⟨C, 0, none⟩ = some (.int .i64 (x : Int)) ∧ wx.cell? ⟨C, 2, none⟩ = some (.int .i64 (it : Int)) ∧ wx.cell? ⟨B, 1, none⟩ = some (.slice ra rl rc) ∧ wx.frozen? ⟨B, 1, none⟩ = false ∧ wx.cell? ⟨db, doff + k * 2 + 1, none⟩ = some (.int .i64 dfr) ∧ (Instr.lookup 132 (.map (some M)) (.int .i64 (x : Int)) false).run Try.prog wx = .ok (.pointer (some ⟨B, 0, none⟩)) wx) := ⟨fun wx hg => by
          have h1 := HC1.out.grown hg (HC1.out.ne_own HOwn.out (by decide))
          have h2 := HTb.out.grown hg (HTb.out.ne_own HOwn.out (by decide))
          have h3 := HOW1.out.mp.grown hg (fun e => HOW1.out.mp.ne_own HOwn.out e)
          have h4 : Below w.heap.size w wx := HOW1.out.below.grown hg HOW1.out.below.size (fun b hb => (HOwn.out.lt b hb).1)
          refine ⟨h1.cell rfl, h1.cell rfl, h2.cell rfl, h2.frozen 1, (HDk.out _ h4).2, ?_⟩
          rw [← HBe.out]
          exact h3.lookup_some (by rw [List.map_map]; exact (List.map_id s.has).symm ▸ HOW1.out.keys.1) (List.mem_map.2 ⟨(x : Int), HSx.out.1, by rw [Int.toNat_natCast]⟩)⟩
        have hrl : rl ≤ 200 := by have := HBs.out.rd x; have := HRL.out; omega
        have hkn : k < n := hkt
        have hBl := HTb.out.lt
        have hbs := HOW1.out.below.size
        clear hrv e0 e1 e2 d0 d1
        go_upto_region 14 with (fail)
        refine wp_meetF (fun wz => ∃ va w1, wz = w1.setCell ⟨B, 1, none⟩ va ∧ PutR.Got W1 (.slice ra rl rc) w.heap.size 27 2 rl (egVals (s.reads x)) [.int .i64 (it : Int), .int .i64 dfr] va w1) ?_
        apply Exists.intro
        constructor
        · obtain ⟨i0, hi0, hz0, hz1, hz2⟩ := info_partsO Try.infoGotO
          obtain ⟨PV, HPV⟩ : ∃ PV : Nat → Option Value, Box (PV = fun i => ([some (.map (some M)), some (.pointer (some ⟨C, 0, none⟩)), some (.int .i64 (x : Int)), some (.pointer (some ⟨B, 0, none⟩)), some (.map (some M)), some (.pointer (some ⟨C, 0, none⟩)), some (.int .i64 (x : Int)), some (.pointer (some ⟨B, 0, none⟩)), some (.pointer (some ⟨B, 0, none⟩)), some (.pointer (some ⟨B, 1, none⟩)), some (.slice ra rl rc), some (.pointer (some ⟨C, 2, none⟩)), some (.int .i64 (it : Int)), some (.slice (some ⟨db, doff, none⟩) n cap'), some (.int .i64 (k : Int)), some (.pointer (some ⟨db, doff + k * 2, none⟩)), some (.pointer (some ⟨db, doff + k * 2 + 1, none⟩)), some (.int .i64 dfr), some (.agg #[.int .i64 (it : Int), .int .i64 dfr]), none, none, some (.pointer (some ⟨B, 0, none⟩)), some (.pointer (some ⟨B, 1, none⟩)), none] : List (Option Value)).getD i none) := ⟨_, ⟨rfl⟩⟩
          refine wp_region_dagv (by kernel_rfl) (fun Lf vals wx => (∀ i v, PV i = some v → Lf.getD i false = true → vals i = v) ∧ PutR W1 (.slice ra rl rc) w.heap.size 27 2 rl (egVals (s.reads x)) ⟨B, 1, none⟩ [.int .i64 (it : Int), .int .i64 dfr] (Lf.getD 19 false) (Lf.getD 20 false) (Lf.getD 23 false) (vals 19) (vals 20) wx) (by kernel_rfl) ?_ ?_ ?_
          · refine ⟨fun i v _ h => absurd h (by simp [Array.getD_eq_getD_getElem?, Array.getElem?_replicate]; try (split <;> simp)), ?_⟩
            simp only [Array.getD_eq_getD_getElem?, Array.getElem?_replicate, List.size_toArray, List.length_cons, List.length_nil, Nat.reduceAdd, Nat.reduceLT, if_true, Option.getD_some]
            exact PutR.start
          · intro i hi o ho Lf vals b wx hat haft hL hR
            obtain ⟨hP, hS⟩ := hR
            have hco := hat.const
            have hkeep : ∀ i v, (PV i = some v ∨ PV i = none) → Lf.getD i true = false → (∀ j u, PV j = some u → (Lf.setIfInBounds i true).getD j false = true → Dag.turn vals i v j = u) := fun i v hv hL j u hu hj => by
              by_cases e : j = i
              · subst e; rw [Dag.turn_same]; rcases hv with hv | hv <;> rw [hv] at hu <;> simp at hu; exact hu
              · rw [Dag.turn_other _ _ e]; rw [getD_set_ne false (Ne.symm e)] at hj; exact hP j u hu hj
            have r6 : b.eval (.tmp 6) = .map (some M) := hat.old 6 (by
              intro j o' hj
              match j with
              | 0 | 1 | 2 | 3 | 4 | 5 | 6 | 7 | 8 | 9 | 10 | 11 | 12 | 13 | 14 | 15 | 16 | 17 | 18 | 19 | 20 | 21 | 22 | 23 => injection hj with hj; subst hj; simp
              | j + 24 => cases hj)
            have r10 : b.eval (.tmp 10) = .pointer (some ⟨C, 0, none⟩) := hat.old 10 (by
              intro j o' hj
              match j with
              | 0 | 1 | 2 | 3 | 4 | 5 | 6 | 7 | 8 | 9 | 10 | 11 | 12 | 13 | 14 | 15 | 16 | 17 | 18 | 19 | 20 | 21 | 22 | 23 => injection hj with hj; subst hj; simp
              | j + 24 => cases hj)
            have r1 : b.eval (.tmp 1) = .slice (some ⟨db, doff, none⟩) n cap' := hat.old 1 (by
              intro j o' hj
              match j with
              | 0 | 1 | 2 | 3 | 4 | 5 | 6 | 7 | 8 | 9 | 10 | 11 | 12 | 13 | 14 | 15 | 16 | 17 | 18 | 19 | 20 | 21 | 22 | 23 => injection hj with hj; subst hj; simp
              | j + 24 => cases hj)
            have r9 : b.eval (.tmp 9) = .int .i64 (k : Int) := hat.old 9 (by
              intro j o' hj
              match j with
              | 0 | 1 | 2 | 3 | 4 | 5 | 6 | 7 | 8 | 9 | 10 | 11 | 12 | 13 | 14 | 15 | 16 | 17 | 18 | 19 | 20 | 21 | 22 | 23 => injection hj with hj; subst hj; simp
              | j + 24 => cases hj)
            match i, hi with
            | 0, _ =>
              injection ho with ho
              subst ho
              have q23 : Lf.getD 23 false = false := by
                cases h : Lf.getD 23 false with
                | false => rfl
                | true => have := hat.closed 23 _ h rfl ⟨0, .phase⟩ (by simp) rfl; rw [Dag.off hL] at this; cases this
              have hg := hS.g q23
              obtain ⟨c0, c2, b1, z1, d1, hlk⟩ := HCx.out wx hg
              refine Dag.yields (w' := wx) (.map (some M)) ?_ ⟨.map (some M), rfl, hkeep 0 _ (Or.inl (by rw [HPV.out]; rfl)) hL, ?_⟩
              · clear hP hS hat haft hkeep hL hg q23
                generalize b.eval = ρ at *
                go_simp
              · simp only [getD_set_ne false (show 0 ≠ 19 by decide), getD_set_ne false (show 0 ≠ 20 by decide), getD_set_ne false (show 0 ≠ 23 by decide), Dag.turn_other vals (i := 0) (j := 19) _ (by decide), Dag.turn_other vals (i := 0) (j := 20) _ (by decide)]
                exact hS
            | 1, _ =>
              injection ho with ho
              subst ho
              have q23 : Lf.getD 23 false = false := by
                cases h : Lf.getD 23 false with
                | false => rfl
                | true => have := hat.closed 23 _ h rfl ⟨1, .phase⟩ (by simp) rfl; rw [Dag.off hL] at this; cases this
              have hg := hS.g q23
              obtain ⟨c0, c2, b1, z1, d1, hlk⟩ := HCx.out wx hg
              refine Dag.yields (w' := wx) (.pointer (some ⟨C, 0, none⟩)) ?_ ⟨.pointer (some ⟨C, 0, none⟩), rfl, hkeep 1 _ (Or.inl (by rw [HPV.out]; rfl)) hL, ?_⟩
              · clear hP hS hat haft hkeep hL hg q23
                generalize b.eval = ρ at *
                go_simp
              · simp only [getD_set_ne false (show 1 ≠ 19 by decide), getD_set_ne false (show 1 ≠ 20 by decide), getD_set_ne false (show 1 ≠ 23 by decide), Dag.turn_other vals (i := 1) (j := 19) _ (by decide), Dag.turn_other vals (i := 1) (j := 20) _ (by decide)]
                exact hS
            | 2, _ =>
              injection ho with ho
              subst ho
              have e80 : b.eval (.tmp 80) = .pointer (some ⟨C, 0, none⟩) := (hat.new 1 _ 80 (haft ⟨1, .data⟩ (by simp) rfl) rfl rfl).trans (hP 1 _ (by rw [HPV.out]; rfl) (haft ⟨1, .data⟩ (by simp) rfl))
              have q23 : Lf.getD 23 false = false := by
                cases h : Lf.getD 23 false with
                | false => rfl
                | true => have := hat.closed 23 _ h rfl ⟨2, .phase⟩ (by simp) rfl; rw [Dag.off hL] at this; cases this
              have hg := hS.g q23
              obtain ⟨c0, c2, b1, z1, d1, hlk⟩ := HCx.out wx hg
              refine Dag.yields (w' := wx) (.int .i64 (x : Int)) ?_ ⟨.int .i64 (x : Int), rfl, hkeep 2 _ (Or.inl (by rw [HPV.out]; rfl)) hL, ?_⟩
              · clear hP hS hat haft hkeep hL hg q23
                generalize b.eval = ρ at *
                go_simp
              · simp only [getD_set_ne false (show 2 ≠ 19 by decide), getD_set_ne false (show 2 ≠ 20 by decide), getD_set_ne false (show 2 ≠ 23 by decide), Dag.turn_other vals (i := 2) (j := 19) _ (by decide), Dag.turn_other vals (i := 2) (j := 20) _ (by decide)]
                exact hS
            | 3, _ =>
              injection ho with ho
              subst ho
              have e79 : b.eval (.tmp 79) = .map (some M) := (hat.new 0 _ 79 (haft ⟨0, .data⟩ (by simp) rfl) rfl rfl).trans (hP 0 _ (by rw [HPV.out]; rfl) (haft ⟨0, .data⟩ (by simp) rfl))
              have e81 : b.eval (.tmp 81) = .int .i64 (x : Int) := (hat.new 2 _ 81 (haft ⟨2, .data⟩ (by simp) rfl) rfl rfl).trans (hP 2 _ (by rw [HPV.out]; rfl) (haft ⟨2, .data⟩ (by simp) rfl))
              have q23 : Lf.getD 23 false = false := by
                cases h : Lf.getD 23 false with
                | false => rfl
                | true => have := hat.closed 23 _ h rfl ⟨3, .phase⟩ (by simp) rfl; rw [Dag.off hL] at this; cases this
              have hg := hS.g q23
              obtain ⟨c0, c2, b1, z1, d1, hlk⟩ := HCx.out wx hg
              refine Dag.yields (w' := wx) (.pointer (some ⟨B, 0, none⟩)) ?_ ⟨.pointer (some ⟨B, 0, none⟩), rfl, hkeep 3 _ (Or.inl (by rw [HPV.out]; rfl)) hL, ?_⟩
              · clear hP hS hat haft hkeep hL hg q23
                generalize b.eval = ρ at *
                go_simp
              · simp only [getD_set_ne false (show 3 ≠ 19 by decide), getD_set_ne false (show 3 ≠ 20 by decide), getD_set_ne false (show 3 ≠ 23 by decide), Dag.turn_other vals (i := 3) (j := 19) _ (by decide), Dag.turn_other vals (i := 3) (j := 20) _ (by decide)]
                exact hS
            | 4, _ =>
              injection ho with ho
              subst ho
              have q23 : Lf.getD 23 false = false := by
                cases h : Lf.getD 23 false with
                | false => rfl
                | true => have := hat.closed 23 _ h rfl ⟨4, .phase⟩ (by simp) rfl; rw [Dag.off hL] at this; cases this
              have hg := hS.g q23
              obtain ⟨c0, c2, b1, z1, d1, hlk⟩ := HCx.out wx hg
              refine Dag.yields (w' := wx) (.map (some M)) ?_ ⟨.map (some M), rfl, hkeep 4 _ (Or.inl (by rw [HPV.out]; rfl)) hL, ?_⟩
              · clear hP hS hat haft hkeep hL hg q23
                generalize b.eval = ρ at *
                go_simp
              · simp only [getD_set_ne false (show 4 ≠ 19 by decide), getD_set_ne false (show 4 ≠ 20 by decide), getD_set_ne false (show 4 ≠ 23 by decide), Dag.turn_other vals (i := 4) (j := 19) _ (by decide), Dag.turn_other vals (i := 4) (j := 20) _ (by decide)]
                exact hS
            | 5, _ =>
              injection ho with ho
              subst ho
              have q23 : Lf.getD 23 false = false := by
                cases h : Lf.getD 23 false with
                | false => rfl
                | true => have := hat.closed 23 _ h rfl ⟨5, .phase⟩ (by simp) rfl; rw [Dag.off hL] at this; cases this
              have hg := hS.g q23
              obtain ⟨c0, c2, b1, z1, d1, hlk⟩ := HCx.out wx hg
              refine Dag.yields (w' := wx) (.pointer (some ⟨C, 0, none⟩)) ?_ ⟨.pointer (some ⟨C, 0, none⟩), rfl, hkeep 5 _ (Or.inl (by rw [HPV.out]; rfl)) hL, ?_⟩
              · clear hP hS hat haft hkeep hL hg q23
                generalize b.eval = ρ at *
                go_simp
              · simp only [getD_set_ne false (show 5 ≠ 19 by decide), getD_set_ne false (show 5 ≠ 20 by decide), getD_set_ne false (show 5 ≠ 23 by decide), Dag.turn_other vals (i := 5) (j := 19) _ (by decide), Dag.turn_other vals (i := 5) (j := 20) _ (by decide)]
                exact hS
            | 6, _ =>
              injection ho with ho
              subst ho
              have e84 : b.eval (.tmp 84) = .pointer (some ⟨C, 0, none⟩) := (hat.new 5 _ 84 (haft ⟨5, .data⟩ (by simp) rfl) rfl rfl).trans (hP 5 _ (by rw [HPV.out]; rfl) (haft ⟨5, .data⟩ (by simp) rfl))
              have q23 : Lf.getD 23 false = false := by
                cases h : Lf.getD 23 false with
                | false => rfl
                | true => have := hat.closed 23 _ h rfl ⟨6, .phase⟩ (by simp) rfl; rw [Dag.off hL] at this; cases this
              have hg := hS.g q23
              obtain ⟨c0, c2, b1, z1, d1, hlk⟩ := HCx.out wx hg
              refine Dag.yields (w' := wx) (.int .i64 (x : Int)) ?_ ⟨.int .i64 (x : Int), rfl, hkeep 6 _ (Or.inl (by rw [HPV.out]; rfl)) hL, ?_⟩
              · clear hP hS hat haft hkeep hL hg q23
                generalize b.eval = ρ at *
                go_simp
              · simp only [getD_set_ne false (show 6 ≠ 19 by decide), getD_set_ne false (show 6 ≠ 20 by decide), getD_set_ne false (show 6 ≠ 23 by decide), Dag.turn_other vals (i := 6) (j := 19) _ (by decide), Dag.turn_other vals (i := 6) (j := 20) _ (by decide)]
                exact hS
            | 7, _ =>
              injection ho with ho
              subst ho
              have e83 : b.eval (.tmp 83) = .map (some M) := (hat.new 4 _ 83 (haft ⟨4, .data⟩ (by simp) rfl) rfl rfl).trans (hP 4 _ (by rw [HPV.out]; rfl) (haft ⟨4, .data⟩ (by simp) rfl))
              have e85 : b.eval (.tmp 85) = .int .i64 (x : Int) := (hat.new 6 _ 85 (haft ⟨6, .data⟩ (by simp) rfl) rfl rfl).trans (hP 6 _ (by rw [HPV.out]; rfl) (haft ⟨6, .data⟩ (by simp) rfl))
              have q23 : Lf.getD 23 false = false := by
                cases h : Lf.getD 23 false with
                | false => rfl
                | true => have := hat.closed 23 _ h rfl ⟨7, .phase⟩ (by simp) rfl; rw [Dag.off hL] at this; cases this
              have hg := hS.g q23
              obtain ⟨c0, c2, b1, z1, d1, hlk⟩ := HCx.out wx hg
              refine Dag.yields (w' := wx) (.pointer (some ⟨B, 0, none⟩)) ?_ ⟨.pointer (some ⟨B, 0, none⟩), rfl, hkeep 7 _ (Or.inl (by rw [HPV.out]; rfl)) hL, ?_⟩
              · clear hP hS hat haft hkeep hL hg q23
                generalize b.eval = ρ at *
                go_simp
              · simp only [getD_set_ne false (show 7 ≠ 19 by decide), getD_set_ne false (show 7 ≠ 20 by decide), getD_set_ne false (show 7 ≠ 23 by decide), Dag.turn_other vals (i := 7) (j := 19) _ (by decide), Dag.turn_other vals (i := 7) (j := 20) _ (by decide)]
                exact hS
            | 8, _ =>
              injection ho with ho
              subst ho
              have e86 : b.eval (.tmp 86) = .pointer (some ⟨B, 0, none⟩) := (hat.new 7 _ 86 (haft ⟨7, .data⟩ (by simp) rfl) rfl rfl).trans (hP 7 _ (by rw [HPV.out]; rfl) (haft ⟨7, .data⟩ (by simp) rfl))
              have q23 : Lf.getD 23 false = false := by
                cases h : Lf.getD 23 false with
                | false => rfl
                | true => have := hat.closed 23 _ h rfl ⟨8, .phase⟩ (by simp) rfl; rw [Dag.off hL] at this; cases this
              have hg := hS.g q23
              obtain ⟨c0, c2, b1, z1, d1, hlk⟩ := HCx.out wx hg
              refine Dag.yields (w' := wx) (.pointer (some ⟨B, 0, none⟩)) ?_ ⟨.pointer (some ⟨B, 0, none⟩), rfl, hkeep 8 _ (Or.inl (by rw [HPV.out]; rfl)) hL, ?_⟩
              · clear hP hS hat haft hkeep hL hg q23
                generalize b.eval = ρ at *
                go_simp
              · simp only [getD_set_ne false (show 8 ≠ 19 by decide), getD_set_ne false (show 8 ≠ 20 by decide), getD_set_ne false (show 8 ≠ 23 by decide), Dag.turn_other vals (i := 8) (j := 19) _ (by decide), Dag.turn_other vals (i := 8) (j := 20) _ (by decide)]
                exact hS
            | 9, _ =>
              injection ho with ho
              subst ho
              have e87 : b.eval (.tmp 87) = .pointer (some ⟨B, 0, none⟩) := (hat.new 8 _ 87 (haft ⟨8, .data⟩ (by simp) rfl) rfl rfl).trans (hP 8 _ (by rw [HPV.out]; rfl) (haft ⟨8, .data⟩ (by simp) rfl))
              have q23 : Lf.getD 23 false = false := by
                cases h : Lf.getD 23 false with
                | false => rfl
                | true => have := hat.closed 23 _ h rfl ⟨9, .phase⟩ (by simp) rfl; rw [Dag.off hL] at this; cases this
              have hg := hS.g q23
              obtain ⟨c0, c2, b1, z1, d1, hlk⟩ := HCx.out wx hg
              refine Dag.yields (w' := wx) (.pointer (some ⟨B, 1, none⟩)) ?_ ⟨.pointer (some ⟨B, 1, none⟩), rfl, hkeep 9 _ (Or.inl (by rw [HPV.out]; rfl)) hL, ?_⟩
              · clear hP hS hat haft hkeep hL hg q23
                generalize b.eval = ρ at *
                go_simp
              · simp only [getD_set_ne false (show 9 ≠ 19 by decide), getD_set_ne false (show 9 ≠ 20 by decide), getD_set_ne false (show 9 ≠ 23 by decide), Dag.turn_other vals (i := 9) (j := 19) _ (by decide), Dag.turn_other vals (i := 9) (j := 20) _ (by decide)]
                exact hS
            | 10, _ =>
              injection ho with ho
              subst ho
              have e88 : b.eval (.tmp 88) = .pointer (some ⟨B, 1, none⟩) := (hat.new 9 _ 88 (haft ⟨9, .data⟩ (by simp) rfl) rfl rfl).trans (hP 9 _ (by rw [HPV.out]; rfl) (haft ⟨9, .data⟩ (by simp) rfl))
              have q23 : Lf.getD 23 false = false := by
                cases h : Lf.getD 23 false with
                | false => rfl
                | true => have := hat.closed 23 _ h rfl ⟨10, .phase⟩ (by simp) rfl; rw [Dag.off hL] at this; cases this
              have hg := hS.g q23
              obtain ⟨c0, c2, b1, z1, d1, hlk⟩ := HCx.out wx hg
              refine Dag.yields (w' := wx) (.slice ra rl rc) ?_ ⟨.slice ra rl rc, rfl, hkeep 10 _ (Or.inl (by rw [HPV.out]; rfl)) hL, ?_⟩
              · clear hP hS hat haft hkeep hL hg q23
                generalize b.eval = ρ at *
                go_simp
              · simp only [getD_set_ne false (show 10 ≠ 19 by decide), getD_set_ne false (show 10 ≠ 20 by decide), getD_set_ne false (show 10 ≠ 23 by decide), Dag.turn_other vals (i := 10) (j := 19) _ (by decide), Dag.turn_other vals (i := 10) (j := 20) _ (by decide)]
                exact hS
            | 11, _ =>
              injection ho with ho
              subst ho
              have q23 : Lf.getD 23 false = false := by
                cases h : Lf.getD 23 false with
                | false => rfl
                | true => have := hat.closed 23 _ h rfl ⟨11, .phase⟩ (by simp) rfl; rw [Dag.off hL] at this; cases this
              have hg := hS.g q23
              obtain ⟨c0, c2, b1, z1, d1, hlk⟩ := HCx.out wx hg
              refine Dag.yields (w' := wx) (.pointer (some ⟨C, 2, none⟩)) ?_ ⟨.pointer (some ⟨C, 2, none⟩), rfl, hkeep 11 _ (Or.inl (by rw [HPV.out]; rfl)) hL, ?_⟩
              · clear hP hS hat haft hkeep hL hg q23
                generalize b.eval = ρ at *
                go_simp
              · simp only [getD_set_ne false (show 11 ≠ 19 by decide), getD_set_ne false (show 11 ≠ 20 by decide), getD_set_ne false (show 11 ≠ 23 by decide), Dag.turn_other vals (i := 11) (j := 19) _ (by decide), Dag.turn_other vals (i := 11) (j := 20) _ (by decide)]
                exact hS
            | 12, _ =>
              injection ho with ho
              subst ho
              have e90 : b.eval (.tmp 90) = .pointer (some ⟨C, 2, none⟩) := (hat.new 11 _ 90 (haft ⟨11, .data⟩ (by simp) rfl) rfl rfl).trans (hP 11 _ (by rw [HPV.out]; rfl) (haft ⟨11, .data⟩ (by simp) rfl))
              have q23 : Lf.getD 23 false = false := by
                cases h : Lf.getD 23 false with
                | false => rfl
                | true => have := hat.closed 23 _ h rfl ⟨12, .phase⟩ (by simp) rfl; rw [Dag.off hL] at this; cases this
              have hg := hS.g q23
              obtain ⟨c0, c2, b1, z1, d1, hlk⟩ := HCx.out wx hg
              refine Dag.yields (w' := wx) (.int .i64 (it : Int)) ?_ ⟨.int .i64 (it : Int), rfl, hkeep 12 _ (Or.inl (by rw [HPV.out]; rfl)) hL, ?_⟩
              · clear hP hS hat haft hkeep hL hg q23
                generalize b.eval = ρ at *
                go_simp
              · simp only [getD_set_ne false (show 12 ≠ 19 by decide), getD_set_ne false (show 12 ≠ 20 by decide), getD_set_ne false (show 12 ≠ 23 by decide), Dag.turn_other vals (i := 12) (j := 19) _ (by decide), Dag.turn_other vals (i := 12) (j := 20) _ (by decide)]
                exact hS
            | 13, _ =>
              injection ho with ho
              subst ho
              have q23 : Lf.getD 23 false = false := by
                cases h : Lf.getD 23 false with
                | false => rfl
                | true => have := hat.closed 23 _ h rfl ⟨13, .phase⟩ (by simp) rfl; rw [Dag.off hL] at this; cases this
              have hg := hS.g q23
              obtain ⟨c0, c2, b1, z1, d1, hlk⟩ := HCx.out wx hg
              refine Dag.yields (w' := wx) (.slice (some ⟨db, doff, none⟩) n cap') ?_ ⟨.slice (some ⟨db, doff, none⟩) n cap', rfl, hkeep 13 _ (Or.inl (by rw [HPV.out]; rfl)) hL, ?_⟩
              · clear hP hS hat haft hkeep hL hg q23
                generalize b.eval = ρ at *
                go_simp
              · simp only [getD_set_ne false (show 13 ≠ 19 by decide), getD_set_ne false (show 13 ≠ 20 by decide), getD_set_ne false (show 13 ≠ 23 by decide), Dag.turn_other vals (i := 13) (j := 19) _ (by decide), Dag.turn_other vals (i := 13) (j := 20) _ (by decide)]
                exact hS
            | 14, _ =>
              injection ho with ho
              subst ho
              have q23 : Lf.getD 23 false = false := by
                cases h : Lf.getD 23 false with
                | false => rfl
                | true => have := hat.closed 23 _ h rfl ⟨14, .phase⟩ (by simp) rfl; rw [Dag.off hL] at this; cases this
              have hg := hS.g q23
              obtain ⟨c0, c2, b1, z1, d1, hlk⟩ := HCx.out wx hg
              refine Dag.yields (w' := wx) (.int .i64 (k : Int)) ?_ ⟨.int .i64 (k : Int), rfl, hkeep 14 _ (Or.inl (by rw [HPV.out]; rfl)) hL, ?_⟩
              · clear hP hS hat haft hkeep hL hg q23
                generalize b.eval = ρ at *
                go_simp
              · simp only [getD_set_ne false (show 14 ≠ 19 by decide), getD_set_ne false (show 14 ≠ 20 by decide), getD_set_ne false (show 14 ≠ 23 by decide), Dag.turn_other vals (i := 14) (j := 19) _ (by decide), Dag.turn_other vals (i := 14) (j := 20) _ (by decide)]
                exact hS
            | 15, _ =>
              injection ho with ho
              subst ho
              have e92 : b.eval (.tmp 92) = .slice (some ⟨db, doff, none⟩) n cap' := (hat.new 13 _ 92 (haft ⟨13, .data⟩ (by simp) rfl) rfl rfl).trans (hP 13 _ (by rw [HPV.out]; rfl) (haft ⟨13, .data⟩ (by simp) rfl))
              have e93 : b.eval (.tmp 93) = .int .i64 (k : Int) := (hat.new 14 _ 93 (haft ⟨14, .data⟩ (by simp) rfl) rfl rfl).trans (hP 14 _ (by rw [HPV.out]; rfl) (haft ⟨14, .data⟩ (by simp) rfl))
              have q23 : Lf.getD 23 false = false := by
                cases h : Lf.getD 23 false with
                | false => rfl
                | true => have := hat.closed 23 _ h rfl ⟨15, .phase⟩ (by simp) rfl; rw [Dag.off hL] at this; cases this
              have hg := hS.g q23
              obtain ⟨c0, c2, b1, z1, d1, hlk⟩ := HCx.out wx hg
              refine Dag.yields (w' := wx) (.pointer (some ⟨db, doff + k * 2, none⟩)) ?_ ⟨.pointer (some ⟨db, doff + k * 2, none⟩), rfl, hkeep 15 _ (Or.inl (by rw [HPV.out]; rfl)) hL, ?_⟩
              · clear hP hS hat haft hkeep hL hg q23
                generalize b.eval = ρ at *
                go_simp
              · simp only [getD_set_ne false (show 15 ≠ 19 by decide), getD_set_ne false (show 15 ≠ 20 by decide), getD_set_ne false (show 15 ≠ 23 by decide), Dag.turn_other vals (i := 15) (j := 19) _ (by decide), Dag.turn_other vals (i := 15) (j := 20) _ (by decide)]
                exact hS
            | 16, _ =>
              injection ho with ho
              subst ho
              have e94 : b.eval (.tmp 94) = .pointer (some ⟨db, doff + k * 2, none⟩) := (hat.new 15 _ 94 (haft ⟨15, .data⟩ (by simp) rfl) rfl rfl).trans (hP 15 _ (by rw [HPV.out]; rfl) (haft ⟨15, .data⟩ (by simp) rfl))
              have q23 : Lf.getD 23 false = false := by
                cases h : Lf.getD 23 false with
                | false => rfl
                | true => have := hat.closed 23 _ h rfl ⟨16, .phase⟩ (by simp) rfl; rw [Dag.off hL] at this; cases this
              have hg := hS.g q23
              obtain ⟨c0, c2, b1, z1, d1, hlk⟩ := HCx.out wx hg
              refine Dag.yields (w' := wx) (.pointer (some ⟨db, doff + k * 2 + 1, none⟩)) ?_ ⟨.pointer (some ⟨db, doff + k * 2 + 1, none⟩), rfl, hkeep 16 _ (Or.inl (by rw [HPV.out]; rfl)) hL, ?_⟩
              · clear hP hS hat haft hkeep hL hg q23
                generalize b.eval = ρ at *
                go_simp
              · simp only [getD_set_ne false (show 16 ≠ 19 by decide), getD_set_ne false (show 16 ≠ 20 by decide), getD_set_ne false (show 16 ≠ 23 by decide), Dag.turn_other vals (i := 16) (j := 19) _ (by decide), Dag.turn_other vals (i := 16) (j := 20) _ (by decide)]
                exact hS
            | 17, _ =>
              injection ho with ho
              subst ho
              have e95 : b.eval (.tmp 95) = .pointer (some ⟨db, doff + k * 2 + 1, none⟩) := (hat.new 16 _ 95 (haft ⟨16, .data⟩ (by simp) rfl) rfl rfl).trans (hP 16 _ (by rw [HPV.out]; rfl) (haft ⟨16, .data⟩ (by simp) rfl))
              have q23 : Lf.getD 23 false = false := by
                cases h : Lf.getD 23 false with
                | false => rfl
                | true => have := hat.closed 23 _ h rfl ⟨17, .phase⟩ (by simp) rfl; rw [Dag.off hL] at this; cases this
              have hg := hS.g q23
              obtain ⟨c0, c2, b1, z1, d1, hlk⟩ := HCx.out wx hg
              refine Dag.yields (w' := wx) (.int .i64 dfr) ?_ ⟨.int .i64 dfr, rfl, hkeep 17 _ (Or.inl (by rw [HPV.out]; rfl)) hL, ?_⟩
              · clear hP hS hat haft hkeep hL hg q23
                generalize b.eval = ρ at *
                go_simp
              · simp only [getD_set_ne false (show 17 ≠ 19 by decide), getD_set_ne false (show 17 ≠ 20 by decide), getD_set_ne false (show 17 ≠ 23 by decide), Dag.turn_other vals (i := 17) (j := 19) _ (by decide), Dag.turn_other vals (i := 17) (j := 20) _ (by decide)]
                exact hS
            | 18, _ =>
              injection ho with ho
              subst ho
              have e91 : b.eval (.tmp 91) = .int .i64 (it : Int) := (hat.new 12 _ 91 (haft ⟨12, .data⟩ (by simp) rfl) rfl rfl).trans (hP 12 _ (by rw [HPV.out]; rfl) (haft ⟨12, .data⟩ (by simp) rfl))
              have e96 : b.eval (.tmp 96) = .int .i64 dfr := (hat.new 17 _ 96 (haft ⟨17, .data⟩ (by simp) rfl) rfl rfl).trans (hP 17 _ (by rw [HPV.out]; rfl) (haft ⟨17, .data⟩ (by simp) rfl))
              have q23 : Lf.getD 23 false = false := by
                cases h : Lf.getD 23 false with
                | false => rfl
                | true => have := hat.closed 23 _ h rfl ⟨18, .phase⟩ (by simp) rfl; rw [Dag.off hL] at this; cases this
              have hg := hS.g q23
              obtain ⟨c0, c2, b1, z1, d1, hlk⟩ := HCx.out wx hg
              refine Dag.yields (w' := wx) (.agg #[.int .i64 (it : Int), .int .i64 dfr]) ?_ ⟨.agg #[.int .i64 (it : Int), .int .i64 dfr], rfl, hkeep 18 _ (Or.inl (by rw [HPV.out]; rfl)) hL, ?_⟩
              · clear hP hS hat haft hkeep hL hg q23
                generalize b.eval = ρ at *
                go_simp
              · simp only [getD_set_ne false (show 18 ≠ 19 by decide), getD_set_ne false (show 18 ≠ 20 by decide), getD_set_ne false (show 18 ≠ 23 by decide), Dag.turn_other vals (i := 18) (j := 19) _ (by decide), Dag.turn_other vals (i := 18) (j := 20) _ (by decide)]
                exact hS
            | 19, _ =>
              injection ho with ho
              subst ho
              have e97 : b.eval (.tmp 97) = .agg #[.int .i64 (it : Int), .int .i64 dfr] := (hat.new 18 _ 97 (haft ⟨18, .data⟩ (by simp) rfl) rfl rfl).trans (hP 18 _ (by rw [HPV.out]; rfl) (haft ⟨18, .data⟩ (by simp) rfl))
              have q23 : Lf.getD 23 false = false := by
                cases h : Lf.getD 23 false with
                | false => rfl
                | true => have := hat.closed 23 _ h rfl ⟨19, .phase⟩ (by simp) rfl; rw [Dag.off hL] at this; cases this
              have hg := hS.g q23
              obtain ⟨c0, c2, b1, z1, d1, hlk⟩ := HCx.out wx hg
              have q20 : Lf.getD 20 false = false := by
                cases h : Lf.getD 20 false with
                | false => rfl
                | true => have := hat.closed 20 _ h rfl ⟨19, .data⟩ (by simp) rfl; rw [Dag.off hL] at this; cases this
              rw [q20, q23, Dag.off hL] at hS
              refine Dag.yields (w' := wx.alloc (.cells #[.int .i64 (it : Int), .int .i64 dfr] 27)) (.slice (some ⟨wx.heap.size, 0, none⟩) 1 1) ?_ ⟨_, rfl, hkeep 19 _ (Or.inr (by rw [HPV.out]; rfl)) hL, ?_⟩
              · clear hP hS hat haft hkeep hL hg
                generalize b.eval = ρ at *
                go_simp
              rw [Dag.on hL]
              simp only [getD_set_ne false (show 19 ≠ 20 by decide), getD_set_ne false (show 19 ≠ 23 by decide), Dag.turn_same, Dag.turn_other vals (i := 19) (j := 20) _ (by decide)]
              rw [q20, q23]
              exact hS.lay
            | 20, _ =>
              injection ho with ho
              subst ho
              have e89 : b.eval (.tmp 89) = .slice ra rl rc := (hat.new 10 _ 89 (haft ⟨10, .data⟩ (by simp) rfl) rfl rfl).trans (hP 10 _ (by rw [HPV.out]; rfl) (haft ⟨10, .data⟩ (by simp) rfl))
              have e98 : b.eval (.tmp 98) = vals 19 := hat.new 19 _ 98 (haft ⟨19, .data⟩ (by simp) rfl) rfl rfl
              have l19 : Lf.getD 19 false = true := haft ⟨19, .data⟩ (by simp) rfl
              have q23 : Lf.getD 23 false = false := by
                cases h : Lf.getD 23 false with
                | false => rfl
                | true => have := hat.closed 23 _ h rfl ⟨20, .phase⟩ (by simp) rfl; rw [Dag.off hL] at this; cases this
              have hg := hS.g q23
              obtain ⟨c0, c2, b1, z1, d1, hlk⟩ := HCx.out wx hg
              rw [l19, q23, Dag.off hL] at hS
              have hbl := hS.a rfl rfl
              have hown := ownsRow_below (HOwn.out) hbl
              have hvb := hS.b rfl
              have hkb := hS.k rfl rfl rfl
              have hsz := hbl.size
              refine wp_append_lies wx _ _ 28 rfl (w.heap.size) 27 i0 _ 2 16 Try.underlying28 hi0 hz0 hz1 hz2 rfl (by decide) (.slice ra rl rc) (rl) (egVals (s.reads x)) e89 hown ⟨_, 0, none⟩ 1 1 [.int .i64 (it : Int), .int .i64 dfr] (e98.trans hvb) rfl (World.news_of_block (cs := #[.int .i64 (it : Int), .int .i64 dfr]) (t := 27) (fr := (0, 0)) hkb) (by simp [Value.oneCell']) (by omega) (by unfold maxLen; omega) (by omega) (by have := hsz; omega) _ rfl ?_
              intro g gc w'' hown2 hgrow hatg hltg
              refine ⟨_, rfl, hkeep 20 _ (Or.inr (by rw [HPV.out]; rfl)) hL, ?_⟩
              rw [Dag.on hL]
              simp only [getD_set_ne false (show 20 ≠ 19 by decide), getD_set_ne false (show 20 ≠ 23 by decide), Dag.turn_same, Dag.turn_other vals (i := 20) (j := 19) _ (by decide)]
              rw [l19, q23]
              exact hS.app hown2 hgrow hatg
            | 21, _ =>
              injection ho with ho
              subst ho
              have e82 : b.eval (.tmp 82) = .pointer (some ⟨B, 0, none⟩) := (hat.new 3 _ 82 (haft ⟨3, .data⟩ (by simp) rfl) rfl rfl).trans (hP 3 _ (by rw [HPV.out]; rfl) (haft ⟨3, .data⟩ (by simp) rfl))
              have q23 : Lf.getD 23 false = false := by
                cases h : Lf.getD 23 false with
                | false => rfl
                | true =>
                  have h22 := hat.closed 23 _ h rfl ⟨22, .data⟩ (by simp) rfl
                  have h21 := hat.closed 22 _ h22 rfl ⟨21, .data⟩ (by simp) rfl
                  rw [Dag.off hL] at h21; cases h21
              have hg := hS.g q23
              obtain ⟨c0, c2, b1, z1, d1, hlk⟩ := HCx.out wx hg
              refine Dag.yields (w' := wx) (.pointer (some ⟨B, 0, none⟩)) ?_ ⟨.pointer (some ⟨B, 0, none⟩), rfl, hkeep 21 _ (Or.inl (by rw [HPV.out]; rfl)) hL, ?_⟩
              · clear hP hS hat haft hkeep hL hg q23
                generalize b.eval = ρ at *
                go_simp
              · simp only [getD_set_ne false (show 21 ≠ 19 by decide), getD_set_ne false (show 21 ≠ 20 by decide), getD_set_ne false (show 21 ≠ 23 by decide), Dag.turn_other vals (i := 21) (j := 19) _ (by decide), Dag.turn_other vals (i := 21) (j := 20) _ (by decide)]
                exact hS
            | 22, _ =>
              injection ho with ho
              subst ho
              have e100 : b.eval (.tmp 100) = .pointer (some ⟨B, 0, none⟩) := (hat.new 21 _ 100 (haft ⟨21, .data⟩ (by simp) rfl) rfl rfl).trans (hP 21 _ (by rw [HPV.out]; rfl) (haft ⟨21, .data⟩ (by simp) rfl))
              have q23 : Lf.getD 23 false = false := by
                cases h : Lf.getD 23 false with
                | false => rfl
                | true =>
                  have h22 := hat.closed 23 _ h rfl ⟨22, .data⟩ (by simp) rfl
                  rw [Dag.off hL] at h22; cases h22
              have hg := hS.g q23
              obtain ⟨c0, c2, b1, z1, d1, hlk⟩ := HCx.out wx hg
              refine Dag.yields (w' := wx) (.pointer (some ⟨B, 1, none⟩)) ?_ ⟨.pointer (some ⟨B, 1, none⟩), rfl, hkeep 22 _ (Or.inl (by rw [HPV.out]; rfl)) hL, ?_⟩
              · clear hP hS hat haft hkeep hL hg q23
                generalize b.eval = ρ at *
                go_simp
              · simp only [getD_set_ne false (show 22 ≠ 19 by decide), getD_set_ne false (show 22 ≠ 20 by decide), getD_set_ne false (show 22 ≠ 23 by decide), Dag.turn_other vals (i := 22) (j := 19) _ (by decide), Dag.turn_other vals (i := 22) (j := 20) _ (by decide)]
                exact hS
            | 23, _ =>
              injection ho with ho
              subst ho
              have e101 : b.eval (.tmp 101) = .pointer (some ⟨B, 1, none⟩) := (hat.new 22 _ 101 (haft ⟨22, .data⟩ (by simp) rfl) rfl rfl).trans (hP 22 _ (by rw [HPV.out]; rfl) (haft ⟨22, .data⟩ (by simp) rfl))
              have e99 : b.eval (.tmp 99) = vals 20 := hat.new 20 _ 99 (haft ⟨20, .data⟩ (by simp) rfl) rfl rfl
              have l20 : Lf.getD 20 false = true := haft ⟨20, .data⟩ (by simp) rfl
              have lb : Lf.getD 19 false = true := hat.closed 20 _ l20 rfl ⟨19, .data⟩ (by simp) rfl
              rw [lb, l20, Dag.off hL] at hS
              have hg := hS.g rfl
              obtain ⟨c0, c2, b1, z1, d1, hlk⟩ := HCx.out wx hg
              obtain ⟨g, gc, hva, _⟩ := hS.c rfl rfl
              have hput := hS.put
              rw [hva] at hput
              have ev := e99.trans hva
              refine Dag.skips (w' := wx.setCell (⟨B, 1, none⟩) (.slice (some ⟨g, 0, none⟩) (rl + 1) gc)) ?_ ⟨_, rfl, hkeep 23 _ (Or.inr (by rw [HPV.out]; rfl)) hL, ?_⟩
              · clear hP hS hat haft hkeep hL hg hput e99 hva
                generalize b.eval = ρ at *
                go_simp
              rw [Dag.on hL]
              simp only [getD_set_ne false (show 23 ≠ 19 by decide), getD_set_ne false (show 23 ≠ 20 by decide), Dag.turn_other vals (i := 23) (j := 19) _ (by decide), Dag.turn_other vals (i := 23) (j := 20) _ (by decide)]
              rw [lb, l20, hva]
              exact hput
            | i + 24, h => exact absurd h (by simp)
          · intro Lf vals wx hall hR
            obtain ⟨hP, hS⟩ := hR
            rw [hall 19 (by simp), hall 20 (by simp), hall 23 (by simp)] at hS
            obtain ⟨w1, hwx, g, gc, hva, hown, hatg, hgrow⟩ := hS.d rfl
            have hvb := hS.b rfl
            have u0 := hP 0 _ (by rw [HPV.out]; rfl) (hall 0 (by simp))
            have u1 := hP 1 _ (by rw [HPV.out]; rfl) (hall 1 (by simp))
            have u2 := hP 2 _ (by rw [HPV.out]; rfl) (hall 2 (by simp))
            have u3 := hP 3 _ (by rw [HPV.out]; rfl) (hall 3 (by simp))
            have u4 := hP 4 _ (by rw [HPV.out]; rfl) (hall 4 (by simp))
            have u5 := hP 5 _ (by rw [HPV.out]; rfl) (hall 5 (by simp))
            have u6 := hP 6 _ (by rw [HPV.out]; rfl) (hall 6 (by simp))
            have u7 := hP 7 _ (by rw [HPV.out]; rfl) (hall 7 (by simp))
            have u8 := hP 8 _ (by rw [HPV.out]; rfl) (hall 8 (by simp))
            have u9 := hP 9 _ (by rw [HPV.out]; rfl) (hall 9 (by simp))
            have u10 := hP 10 _ (by rw [HPV.out]; rfl) (hall 10 (by simp))
            have u11 := hP 11 _ (by rw [HPV.out]; rfl) (hall 11 (by simp))
            have u12 := hP 12 _ (by rw [HPV.out]; rfl) (hall 12 (by simp))
            have u13 := hP 13 _ (by rw [HPV.out]; rfl) (hall 13 (by simp))
            have u14 := hP 14 _ (by rw [HPV.out]; rfl) (hall 14 (by simp))
            have u15 := hP 15 _ (by rw [HPV.out]; rfl) (hall 15 (by simp))
            have u16 := hP 16 _ (by rw [HPV.out]; rfl) (hall 16 (by simp))
            have u17 := hP 17 _ (by rw [HPV.out]; rfl) (hall 17 (by simp))
            have u18 := hP 18 _ (by rw [HPV.out]; rfl) (hall 18 (by simp))
            have u21 := hP 21 _ (by rw [HPV.out]; rfl) (hall 21 (by simp))
            have u22 := hP 22 _ (by rw [HPV.out]; rfl) (hall 22 (by simp))
            simp only [Dag.all, List.size_toArray, List.length_cons, List.length_nil, Nat.reduceAdd, Act.put, List.getElem?_toArray, List.getElem?_cons_zero, List.getElem?_cons_succ, Option.bind_some, List.setIfInBounds_toArray, List.set_cons_zero, List.set_cons_succ]
            rw [u0, u1, u2, u3, u4, u5, u6, u7, u8, u9, u10, u11, u12, u13, u14, u15, u16, u17, u18, u21, u22, hvb, hva]
            rw [hva] at hown hwx
            exact ⟨g, gc, rfl, _, w1, hwx, g, gc, rfl, hown, hatg, hgrow⟩
        intro gg gcap wz hcut
        obtain ⟨va, w1, rfl, hgot⟩ := hcut
        have HNx : Box (OfM.Go w l ds M N O V R (k + 1) (w1.setCell ⟨B, 1, none⟩ va)) := ⟨⟨bt, v, upd vr x va, vt, by
          rw [HGn.out, ← HBe.out]
          exact HOW1.out.putRead (e := ⟨(it : Int), dfr⟩) hx HSx.out.1 HNs.out (by rw [HRv.out, HRL.out]; exact hgot), fun y hy => by
            rw [HGn.out] at hy
            rw [upd_other _ _ (fun e => hy (by rw [e]; exact HSx.out.1))]
            exact HNl.out y hy⟩⟩
        clear hgot
        go_wp2_with fail
        go_roundw
        case rel => exact ⟨k + 1, by omega, by go_num, HNx⟩
        case measure => simp [RowKit.intOf]; omega
      | false =>
        have HSp2 : Box (OfM.run l ds (k + 1) = if kind = 2 ∧ (it : Int) ∉ s.rows x then { s with rows := upd s.rows x (s.rows x ++ [(it : Int)]) }
          else if kind = 3 ∧ dok = true then { s with rows := OfM.put (x : Int) s.rows (s.rows x), done := s.done ++ [(x : Int)] } else s) := ⟨by rw [HSp.out, if_neg (fun h => by have := HB1.out.2 h; cases this)]⟩
        obtain ⟨wa, wcp, hwv, _, hwi, _, _⟩ := IntsAt.own (HOW1.out.fam.own x (by omega))
        have n0 := HOW1.out.nb.tabCell hx
        rw [hwv] at n0
        have HWi := box hwi
        have hwl := HBs.out.wr x hx
        go_upto_region 15 with (fail)
        go_cut [102] (fun s102 wz => ∃ b : Bool, s102 = .bool b ∧ (b = true ↔ kind = 2 ∧ (it : Int) ∉ s.rows x) ∧ ∃ nq, wz = W1.drewN nq)
        case first =>
          by_cases hk2 : kind = 2
          · have f1 : (kind == 2) = true := by simpa using hk2
            have Hk := box hk2
            have HCt := box (fun (wx : World) (hb : Below W1.heap.size W1 wx) => contains_ints (s.rows x) (it : Int) wa wcp wx (hwi.below hb (Nat.le_refl _)) (by omega))
            obtain ⟨u, Hu⟩ : ∃ u, Box (decide ((it : Int) ∈ s.rows x) = u) := ⟨_, ⟨rfl⟩⟩
            rw [Hu.out] at HCt
            obtain ⟨rl, HRL⟩ : ∃ rl, Box ((s.rows x).length = rl) := ⟨_, ⟨rfl⟩⟩
            rw [HRL.out] at HCt n0
            have HB41 : Box (Below W1.heap.size W1 (W1.drewN 1)) := ⟨⟨rfl, rfl, rfl, Nat.le_refl _, fun _ _ => rfl⟩⟩
            have hxi : (x : Int) < 12 := by omega
            have hx0 : (0 : Int) ≤ (x : Int) := by omega
            clear hk2 hwi hwv
            go_region_held3 (fun w' => w'.cell? ⟨C, 0, none⟩ = some (.int .i64 (x : Int)) ∧ w'.cell? ⟨C, 1, none⟩ = some (.int .i64 kind) ∧ w'.cell? ⟨C, 2, none⟩ = some (.int .i64 (it : Int)) ∧ w'.cell? ⟨N, x, none⟩ = some (.slice wa rl wcp)) (first | exact ⟨e0, e1, e2, n0⟩ | assumption) (first
              | (go_at_call 19; refine (HCt.out _ HB41.out).mono ?_; rintro e w9 ⟨rfl, rfl⟩))
            all_goals (go_wp2_with fail)
            all_goals go_meet
            all_goals exact ⟨!u, rfl, ⟨fun h => ⟨Hk.out, of_decide_eq_false (Hu.out.trans (by simpa using h))⟩, fun h => by rw [← Hu.out, decide_eq_false h.2]; rfl⟩, 1, rfl⟩
          · have f1 : (kind == 2) = false := by simpa using hk2
            have Hk := box hk2
            clear hk2 hwi hwv
            go_quiet (fail)
            go_wp2_with fail
            go_meet
            exact ⟨false, rfl, ⟨fun h => (by cases h), fun h => absurd h.1 Hk.out⟩, _, rfl⟩
        case rest =>
        obtain ⟨b2, rfl, hb2, nq2, rfl⟩ := hcut
        have HB2 := box hb2
        have HOW2 := box (HOW1.out.drew nq2); have HC2 := box (HC1.out.drewN nq2)
        clear hb2 e0 e1 e2 d0 d1 n0 hwi hwv HOW1 HC1 HWi
        generalize W1.drewN nq2 = W2 at *
        have e0 := HC2.out.cell (i := 0) rfl
        have e1 := HC2.out.cell (i := 1) rfl
        have e2 := HC2.out.cell (i := 2) rfl
        obtain ⟨d0, d1⟩ := HDk.out _ HOW2.out.below
        cases b2 with
        | true =>
          have HGn : Box (OfM.run l ds (k + 1) = { s with rows := upd s.rows x (s.rows x ++ [(it : Int)]) }) := ⟨by rw [HSp2.out, if_pos (HB2.out.1 rfl)]⟩
          obtain ⟨wa, wcp, hwv⟩ := own_shape (HOW2.out.fam.own x (by omega))
          have HWv := box hwv
          obtain ⟨rl, HRL⟩ : ∃ rl, Box ((s.rows x).length = rl) := ⟨_, ⟨rfl⟩⟩
          have HOwn : Box (W2.ownsRow w.heap.size 3 1 (.slice wa rl wcp) rl (intVals (s.rows x))) := ⟨by
            have h1 := HOW2.out.fam.own x (by omega)
            rw [hwv, HRL.out] at h1
            exact h1⟩
          have HCx : Box (∀ wx, W2.grownBy wx (Value.slice wa rl wcp).ownBlock → wx.cell? ⟨C, 0, none⟩ = some (.int .i64 (x : Int)) ∧ wx.cell? ⟨C, 2, none⟩ = some (.int .i64 (it : Int)) ∧ wx.cell? ⟨N, x, none⟩ = some (.slice wa rl wcp) ∧ wx.frozen? ⟨N, x, none⟩ = false) := ⟨fun wx hg => by
            have h1 := HC2.out.grown hg (HC2.out.ne_own HOwn.out (by decide))
            have h2 := HOW2.out.nb.grown hg (HOW2.out.nb.ne_own HOwn.out (by decide))
            have h3 := h2.tabCell hx
            rw [hwv, HRL.out] at h3
            exact ⟨h1.cell rfl, h1.cell rfl, h3, h2.frozen x⟩⟩
          have hrl : rl ≤ 200 := by have := HBs.out.wr x hx; have := HRL.out; omega
          have hNl := HOW2.out.nb.lt
          have hbs := HOW2.out.below.size
          have hxi : (x : Int) < 12 := by omega
          have hx0 : (0 : Int) ≤ (x : Int) := by omega
          clear hwv e0 e1 e2 d0 d1
          go_upto_region 16 with (fail)
          refine wp_meetF (fun wz => ∃ va w1, wz = w1.setCell ⟨N, x, none⟩ va ∧ PutR.Got W2 (.slice wa rl wcp) w.heap.size 3 1 rl (intVals (s.rows x)) [.int .i64 (it : Int)] va w1) ?_
          apply Exists.intro
          constructor
          · obtain ⟨i0, hi0, hz0, hz1, hz2⟩ := info_partsO Try.infoIntO
            obtain ⟨PV, HPV⟩ : ∃ PV : Nat → Option Value, Box (PV = fun i => ([some (.pointer (some ⟨C, 0, none⟩)), some (.int .i64 (x : Int)), some (.pointer (some ⟨C, 0, none⟩)), some (.int .i64 (x : Int)), some (.pointer (some ⟨N, x, none⟩)), some (.slice wa rl wcp), some (.pointer (some ⟨C, 2, none⟩)), some (.int .i64 (it : Int)), none, none, some (.pointer (some ⟨N, x, none⟩)), none] : List (Option Value)).getD i none) := ⟨_, ⟨rfl⟩⟩
            refine wp_region_dagv (by kernel_rfl) (fun Lf vals wx => (∀ i v, PV i = some v → Lf.getD i false = true → vals i = v) ∧ PutR W2 (.slice wa rl wcp) w.heap.size 3 1 rl (intVals (s.rows x)) ⟨N, x, none⟩ [.int .i64 (it : Int)] (Lf.getD 8 false) (Lf.getD 9 false) (Lf.getD 11 false) (vals 8) (vals 9) wx) (by kernel_rfl) ?_ ?_ ?_
            · refine ⟨fun i v _ h => absurd h (by simp [Array.getD_eq_getD_getElem?, Array.getElem?_replicate]; try (split <;> simp)), ?_⟩
              simp only [Array.getD_eq_getD_getElem?, Array.getElem?_replicate, List.size_toArray, List.length_cons, List.length_nil, Nat.reduceAdd, Nat.reduceLT, if_true, Option.getD_some]
              exact PutR.start
            · intro i hi o ho Lf vals b wx hat haft hL hR
              obtain ⟨hP, hS⟩ := hR
              have hco := hat.const
              have hkeep : ∀ i v, (PV i = some v ∨ PV i = none) → Lf.getD i true = false → (∀ j u, PV j = some u → (Lf.setIfInBounds i true).getD j false = true → Dag.turn vals i v j = u) := fun i v hv hL j u hu hj => by
                by_cases e : j = i
                · subst e; rw [Dag.turn_same]; rcases hv with hv | hv <;> rw [hv] at hu <;> simp at hu; exact hu
                · rw [Dag.turn_other _ _ e]; rw [getD_set_ne false (Ne.symm e)] at hj; exact hP j u hu hj
              have r10 : b.eval (.tmp 10) = .pointer (some ⟨C, 0, none⟩) := hat.old 10 (by
                intro j o' hj
                match j with
                | 0 | 1 | 2 | 3 | 4 | 5 | 6 | 7 | 8 | 9 | 10 | 11 => injection hj with hj; subst hj; simp
                | j + 12 => cases hj)
              have r7 : b.eval (.tmp 7) = .pointer (some ⟨N, 0, none⟩) := hat.old 7 (by
                intro j o' hj
                match j with
                | 0 | 1 | 2 | 3 | 4 | 5 | 6 | 7 | 8 | 9 | 10 | 11 => injection hj with hj; subst hj; simp
                | j + 12 => cases hj)
              match i, hi with
              | 0, _ =>
                injection ho with ho
                subst ho
                have q11 : Lf.getD 11 false = false := by
                  cases h : Lf.getD 11 false with
                  | false => rfl
                  | true => have := hat.closed 11 _ h rfl ⟨0, .phase⟩ (by simp) rfl; rw [Dag.off hL] at this; cases this
                have hg := hS.g q11
                obtain ⟨c0, c2, b1, z1⟩ := HCx.out wx hg
                refine Dag.yields (w' := wx) (.pointer (some ⟨C, 0, none⟩)) ?_ ⟨.pointer (some ⟨C, 0, none⟩), rfl, hkeep 0 _ (Or.inl (by rw [HPV.out]; rfl)) hL, ?_⟩
                · clear hP hS hat haft hkeep hL hg q11
                  generalize b.eval = ρ at *
                  go_simp
                · simp only [getD_set_ne false (show 0 ≠ 8 by decide), getD_set_ne false (show 0 ≠ 9 by decide), getD_set_ne false (show 0 ≠ 11 by decide), Dag.turn_other vals (i := 0) (j := 8) _ (by decide), Dag.turn_other vals (i := 0) (j := 9) _ (by decide)]
                  exact hS
              | 1, _ =>
                injection ho with ho
                subst ho
                have e116 : b.eval (.tmp 116) = .pointer (some ⟨C, 0, none⟩) := (hat.new 0 _ 116 (haft ⟨0, .data⟩ (by simp) rfl) rfl rfl).trans (hP 0 _ (by rw [HPV.out]; rfl) (haft ⟨0, .data⟩ (by simp) rfl))
                have q11 : Lf.getD 11 false = false := by
                  cases h : Lf.getD 11 false with
                  | false => rfl
                  | true => have := hat.closed 11 _ h rfl ⟨1, .phase⟩ (by simp) rfl; rw [Dag.off hL] at this; cases this
                have hg := hS.g q11
                obtain ⟨c0, c2, b1, z1⟩ := HCx.out wx hg
                refine Dag.yields (w' := wx) (.int .i64 (x : Int)) ?_ ⟨.int .i64 (x : Int), rfl, hkeep 1 _ (Or.inl (by rw [HPV.out]; rfl)) hL, ?_⟩
                · clear hP hS hat haft hkeep hL hg q11
                  generalize b.eval = ρ at *
                  go_simp
                · simp only [getD_set_ne false (show 1 ≠ 8 by decide), getD_set_ne false (show 1 ≠ 9 by decide), getD_set_ne false (show 1 ≠ 11 by decide), Dag.turn_other vals (i := 1) (j := 8) _ (by decide), Dag.turn_other vals (i := 1) (j := 9) _ (by decide)]
                  exact hS
              | 2, _ =>
                injection ho with ho
                subst ho
                have q11 : Lf.getD 11 false = false := by
                  cases h : Lf.getD 11 false with
                  | false => rfl
                  | true => have := hat.closed 11 _ h rfl ⟨2, .phase⟩ (by simp) rfl; rw [Dag.off hL] at this; cases this
                have hg := hS.g q11
                obtain ⟨c0, c2, b1, z1⟩ := HCx.out wx hg
                refine Dag.yields (w' := wx) (.pointer (some ⟨C, 0, none⟩)) ?_ ⟨.pointer (some ⟨C, 0, none⟩), rfl, hkeep 2 _ (Or.inl (by rw [HPV.out]; rfl)) hL, ?_⟩
                · clear hP hS hat haft hkeep hL hg q11
                  generalize b.eval = ρ at *
                  go_simp
                · simp only [getD_set_ne false (show 2 ≠ 8 by decide), getD_set_ne false (show 2 ≠ 9 by decide), getD_set_ne false (show 2 ≠ 11 by decide), Dag.turn_other vals (i := 2) (j := 8) _ (by decide), Dag.turn_other vals (i := 2) (j := 9) _ (by decide)]
                  exact hS
              | 3, _ =>
                injection ho with ho
                subst ho
                have e118 : b.eval (.tmp 118) = .pointer (some ⟨C, 0, none⟩) := (hat.new 2 _ 118 (haft ⟨2, .data⟩ (by simp) rfl) rfl rfl).trans (hP 2 _ (by rw [HPV.out]; rfl) (haft ⟨2, .data⟩ (by simp) rfl))
                have q11 : Lf.getD 11 false = false := by
                  cases h : Lf.getD 11 false with
                  | false => rfl
                  | true => have := hat.closed 11 _ h rfl ⟨3, .phase⟩ (by simp) rfl; rw [Dag.off hL] at this; cases this
                have hg := hS.g q11
                obtain ⟨c0, c2, b1, z1⟩ := HCx.out wx hg
                refine Dag.yields (w' := wx) (.int .i64 (x : Int)) ?_ ⟨.int .i64 (x : Int), rfl, hkeep 3 _ (Or.inl (by rw [HPV.out]; rfl)) hL, ?_⟩
                · clear hP hS hat haft hkeep hL hg q11
                  generalize b.eval = ρ at *
                  go_simp
                · simp only [getD_set_ne false (show 3 ≠ 8 by decide), getD_set_ne false (show 3 ≠ 9 by decide), getD_set_ne false (show 3 ≠ 11 by decide), Dag.turn_other vals (i := 3) (j := 8) _ (by decide), Dag.turn_other vals (i := 3) (j := 9) _ (by decide)]
                  exact hS
              | 4, _ =>
                injection ho with ho
                subst ho
                have e119 : b.eval (.tmp 119) = .int .i64 (x : Int) := (hat.new 3 _ 119 (haft ⟨3, .data⟩ (by simp) rfl) rfl rfl).trans (hP 3 _ (by rw [HPV.out]; rfl) (haft ⟨3, .data⟩ (by simp) rfl))
                have q11 : Lf.getD 11 false = false := by
                  cases h : Lf.getD 11 false with
                  | false => rfl
                  | true => have := hat.closed 11 _ h rfl ⟨4, .phase⟩ (by simp) rfl; rw [Dag.off hL] at this; cases this
                have hg := hS.g q11
                obtain ⟨c0, c2, b1, z1⟩ := HCx.out wx hg
                refine Dag.yields (w' := wx) (.pointer (some ⟨N, x, none⟩)) ?_ ⟨.pointer (some ⟨N, x, none⟩), rfl, hkeep 4 _ (Or.inl (by rw [HPV.out]; rfl)) hL, ?_⟩
                · clear hP hS hat haft hkeep hL hg q11
                  generalize b.eval = ρ at *
                  go_simp
                · simp only [getD_set_ne false (show 4 ≠ 8 by decide), getD_set_ne false (show 4 ≠ 9 by decide), getD_set_ne false (show 4 ≠ 11 by decide), Dag.turn_other vals (i := 4) (j := 8) _ (by decide), Dag.turn_other vals (i := 4) (j := 9) _ (by decide)]
                  exact hS
              | 5, _ =>
                injection ho with ho
                subst ho
                have e120 : b.eval (.tmp 120) = .pointer (some ⟨N, x, none⟩) := (hat.new 4 _ 120 (haft ⟨4, .data⟩ (by simp) rfl) rfl rfl).trans (hP 4 _ (by rw [HPV.out]; rfl) (haft ⟨4, .data⟩ (by simp) rfl))
                have q11 : Lf.getD 11 false = false := by
                  cases h : Lf.getD 11 false with
                  | false => rfl
                  | true => have := hat.closed 11 _ h rfl ⟨5, .phase⟩ (by simp) rfl; rw [Dag.off hL] at this; cases this
                have hg := hS.g q11
                obtain ⟨c0, c2, b1, z1⟩ := HCx.out wx hg
                refine Dag.yields (w' := wx) (.slice wa rl wcp) ?_ ⟨.slice wa rl wcp, rfl, hkeep 5 _ (Or.inl (by rw [HPV.out]; rfl)) hL, ?_⟩
                · clear hP hS hat haft hkeep hL hg q11
                  generalize b.eval = ρ at *
                  go_simp
                · simp only [getD_set_ne false (show 5 ≠ 8 by decide), getD_set_ne false (show 5 ≠ 9 by decide), getD_set_ne false (show 5 ≠ 11 by decide), Dag.turn_other vals (i := 5) (j := 8) _ (by decide), Dag.turn_other vals (i := 5) (j := 9) _ (by decide)]
                  exact hS
              | 6, _ =>
                injection ho with ho
                subst ho
                have q11 : Lf.getD 11 false = false := by
                  cases h : Lf.getD 11 false with
                  | false => rfl
                  | true => have := hat.closed 11 _ h rfl ⟨6, .phase⟩ (by simp) rfl; rw [Dag.off hL] at this; cases this
                have hg := hS.g q11
                obtain ⟨c0, c2, b1, z1⟩ := HCx.out wx hg
                refine Dag.yields (w' := wx) (.pointer (some ⟨C, 2, none⟩)) ?_ ⟨.pointer (some ⟨C, 2, none⟩), rfl, hkeep 6 _ (Or.inl (by rw [HPV.out]; rfl)) hL, ?_⟩
                · clear hP hS hat haft hkeep hL hg q11
                  generalize b.eval = ρ at *
                  go_simp
                · simp only [getD_set_ne false (show 6 ≠ 8 by decide), getD_set_ne false (show 6 ≠ 9 by decide), getD_set_ne false (show 6 ≠ 11 by decide), Dag.turn_other vals (i := 6) (j := 8) _ (by decide), Dag.turn_other vals (i := 6) (j := 9) _ (by decide)]
                  exact hS
              | 7, _ =>
                injection ho with ho
                subst ho
                have e122 : b.eval (.tmp 122) = .pointer (some ⟨C, 2, none⟩) := (hat.new 6 _ 122 (haft ⟨6, .data⟩ (by simp) rfl) rfl rfl).trans (hP 6 _ (by rw [HPV.out]; rfl) (haft ⟨6, .data⟩ (by simp) rfl))
                have q11 : Lf.getD 11 false = false := by
                  cases h : Lf.getD 11 false with
                  | false => rfl
                  | true => have := hat.closed 11 _ h rfl ⟨7, .phase⟩ (by simp) rfl; rw [Dag.off hL] at this; cases this
                have hg := hS.g q11
                obtain ⟨c0, c2, b1, z1⟩ := HCx.out wx hg
                refine Dag.yields (w' := wx) (.int .i64 (it : Int)) ?_ ⟨.int .i64 (it : Int), rfl, hkeep 7 _ (Or.inl (by rw [HPV.out]; rfl)) hL, ?_⟩
                · clear hP hS hat haft hkeep hL hg q11
                  generalize b.eval = ρ at *
                  go_simp
                · simp only [getD_set_ne false (show 7 ≠ 8 by decide), getD_set_ne false (show 7 ≠ 9 by decide), getD_set_ne false (show 7 ≠ 11 by decide), Dag.turn_other vals (i := 7) (j := 8) _ (by decide), Dag.turn_other vals (i := 7) (j := 9) _ (by decide)]
                  exact hS
              | 8, _ =>
                injection ho with ho
                subst ho
                have e123 : b.eval (.tmp 123) = .int .i64 (it : Int) := (hat.new 7 _ 123 (haft ⟨7, .data⟩ (by simp) rfl) rfl rfl).trans (hP 7 _ (by rw [HPV.out]; rfl) (haft ⟨7, .data⟩ (by simp) rfl))
                have q11 : Lf.getD 11 false = false := by
                  cases h : Lf.getD 11 false with
                  | false => rfl
                  | true => have := hat.closed 11 _ h rfl ⟨8, .phase⟩ (by simp) rfl; rw [Dag.off hL] at this; cases this
                have hg := hS.g q11
                obtain ⟨c0, c2, b1, z1⟩ := HCx.out wx hg
                have q9 : Lf.getD 9 false = false := by
                  cases h : Lf.getD 9 false with
                  | false => rfl
                  | true => have := hat.closed 9 _ h rfl ⟨8, .data⟩ (by simp) rfl; rw [Dag.off hL] at this; cases this
                rw [q9, q11, Dag.off hL] at hS
                refine Dag.yields (w' := wx.alloc (.cells #[.int .i64 (it : Int)] 3)) (.slice (some ⟨wx.heap.size, 0, none⟩) 1 1) ?_ ⟨_, rfl, hkeep 8 _ (Or.inr (by rw [HPV.out]; rfl)) hL, ?_⟩
                · clear hP hS hat haft hkeep hL hg
                  generalize b.eval = ρ at *
                  go_simp
                rw [Dag.on hL]
                simp only [getD_set_ne false (show 8 ≠ 9 by decide), getD_set_ne false (show 8 ≠ 11 by decide), Dag.turn_same, Dag.turn_other vals (i := 8) (j := 9) _ (by decide)]
                rw [q9, q11]
                exact hS.lay
              | 9, _ =>
                injection ho with ho
                subst ho
                have e121 : b.eval (.tmp 121) = .slice wa rl wcp := (hat.new 5 _ 121 (haft ⟨5, .data⟩ (by simp) rfl) rfl rfl).trans (hP 5 _ (by rw [HPV.out]; rfl) (haft ⟨5, .data⟩ (by simp) rfl))
                have e124 : b.eval (.tmp 124) = vals 8 := hat.new 8 _ 124 (haft ⟨8, .data⟩ (by simp) rfl) rfl rfl
                have l8 : Lf.getD 8 false = true := haft ⟨8, .data⟩ (by simp) rfl
                have q11 : Lf.getD 11 false = false := by
                  cases h : Lf.getD 11 false with
                  | false => rfl
                  | true => have := hat.closed 11 _ h rfl ⟨9, .phase⟩ (by simp) rfl; rw [Dag.off hL] at this; cases this
                have hg := hS.g q11
                obtain ⟨c0, c2, b1, z1⟩ := HCx.out wx hg
                rw [l8, q11, Dag.off hL] at hS
                have hbl := hS.a rfl rfl
                have hown := ownsRow_below (HOwn.out) hbl
                have hvb := hS.b rfl
                have hkb := hS.k rfl rfl rfl
                have hsz := hbl.size
                refine wp_append_lies wx _ _ 31 rfl (w.heap.size) 3 i0 _ 1 8 Try.underlying31 hi0 hz0 hz1 hz2 rfl (by decide) (.slice wa rl wcp) (rl) (intVals (s.rows x)) e121 hown ⟨_, 0, none⟩ 1 1 [.int .i64 (it : Int)] (e124.trans hvb) rfl (World.news_of_block (cs := #[.int .i64 (it : Int)]) (t := 3) (fr := (0, 0)) hkb) (by simp [Value.oneCell']) (by omega) (by unfold maxLen; omega) (by omega) (by have := hsz; omega) _ rfl ?_
                intro g gc w'' hown2 hgrow hatg hltg
                refine ⟨_, rfl, hkeep 9 _ (Or.inr (by rw [HPV.out]; rfl)) hL, ?_⟩
                rw [Dag.on hL]
                simp only [getD_set_ne false (show 9 ≠ 8 by decide), getD_set_ne false (show 9 ≠ 11 by decide), Dag.turn_same, Dag.turn_other vals (i := 9) (j := 8) _ (by decide)]
                rw [l8, q11]
                exact hS.app hown2 hgrow hatg
              | 10, _ =>
                injection ho with ho
                subst ho
                have e117 : b.eval (.tmp 117) = .int .i64 (x : Int) := (hat.new 1 _ 117 (haft ⟨1, .data⟩ (by simp) rfl) rfl rfl).trans (hP 1 _ (by rw [HPV.out]; rfl) (haft ⟨1, .data⟩ (by simp) rfl))
                have q11 : Lf.getD 11 false = false := by
                  cases h : Lf.getD 11 false with
                  | false => rfl
                  | true =>
                    have h10 := hat.closed 11 _ h rfl ⟨10, .data⟩ (by simp) rfl
                    rw [Dag.off hL] at h10; cases h10
                have hg := hS.g q11
                obtain ⟨c0, c2, b1, z1⟩ := HCx.out wx hg
                refine Dag.yields (w' := wx) (.pointer (some ⟨N, x, none⟩)) ?_ ⟨.pointer (some ⟨N, x, none⟩), rfl, hkeep 10 _ (Or.inl (by rw [HPV.out]; rfl)) hL, ?_⟩
                · clear hP hS hat haft hkeep hL hg q11
                  generalize b.eval = ρ at *
                  go_simp
                · simp only [getD_set_ne false (show 10 ≠ 8 by decide), getD_set_ne false (show 10 ≠ 9 by decide), getD_set_ne false (show 10 ≠ 11 by decide), Dag.turn_other vals (i := 10) (j := 8) _ (by decide), Dag.turn_other vals (i := 10) (j := 9) _ (by decide)]
                  exact hS
              | 11, _ =>
                injection ho with ho
                subst ho
                have e126 : b.eval (.tmp 126) = .pointer (some ⟨N, x, none⟩) := (hat.new 10 _ 126 (haft ⟨10, .data⟩ (by simp) rfl) rfl rfl).trans (hP 10 _ (by rw [HPV.out]; rfl) (haft ⟨10, .data⟩ (by simp) rfl))
                have e125 : b.eval (.tmp 125) = vals 9 := hat.new 9 _ 125 (haft ⟨9, .data⟩ (by simp) rfl) rfl rfl
                have l9 : Lf.getD 9 false = true := haft ⟨9, .data⟩ (by simp) rfl
                have lb : Lf.getD 8 false = true := hat.closed 9 _ l9 rfl ⟨8, .data⟩ (by simp) rfl
                rw [lb, l9, Dag.off hL] at hS
                have hg := hS.g rfl
                obtain ⟨c0, c2, b1, z1⟩ := HCx.out wx hg
                obtain ⟨g, gc, hva, _⟩ := hS.c rfl rfl
                have hput := hS.put
                rw [hva] at hput
                have ev := e125.trans hva
                refine Dag.skips (w' := wx.setCell (⟨N, x, none⟩) (.slice (some ⟨g, 0, none⟩) (rl + 1) gc)) ?_ ⟨_, rfl, hkeep 11 _ (Or.inr (by rw [HPV.out]; rfl)) hL, ?_⟩
                · clear hP hS hat haft hkeep hL hg hput e125 hva
                  generalize b.eval = ρ at *
                  go_simp
                rw [Dag.on hL]
                simp only [getD_set_ne false (show 11 ≠ 8 by decide), getD_set_ne false (show 11 ≠ 9 by decide), Dag.turn_other vals (i := 11) (j := 8) _ (by decide), Dag.turn_other vals (i := 11) (j := 9) _ (by decide)]
                rw [lb, l9, hva]
                exact hput
              | i + 12, h => exact absurd h (by simp)
            · intro Lf vals wx hall hR
              obtain ⟨hP, hS⟩ := hR
              rw [hall 8 (by simp), hall 9 (by simp), hall 11 (by simp)] at hS
              obtain ⟨w1, hwx, g, gc, hva, hown, hatg, hgrow⟩ := hS.d rfl
              have hvb := hS.b rfl
              have u0 := hP 0 _ (by rw [HPV.out]; rfl) (hall 0 (by simp))
              have u1 := hP 1 _ (by rw [HPV.out]; rfl) (hall 1 (by simp))
              have u2 := hP 2 _ (by rw [HPV.out]; rfl) (hall 2 (by simp))
              have u3 := hP 3 _ (by rw [HPV.out]; rfl) (hall 3 (by simp))
              have u4 := hP 4 _ (by rw [HPV.out]; rfl) (hall 4 (by simp))
              have u5 := hP 5 _ (by rw [HPV.out]; rfl) (hall 5 (by simp))
              have u6 := hP 6 _ (by rw [HPV.out]; rfl) (hall 6 (by simp))
              have u7 := hP 7 _ (by rw [HPV.out]; rfl) (hall 7 (by simp))
              have u10 := hP 10 _ (by rw [HPV.out]; rfl) (hall 10 (by simp))
              simp only [Dag.all, List.size_toArray, List.length_cons, List.length_nil, Nat.reduceAdd, Act.put, List.getElem?_toArray, List.getElem?_cons_zero, List.getElem?_cons_succ, Option.bind_some, List.setIfInBounds_toArray, List.set_cons_zero, List.set_cons_succ]
              rw [u0, u1, u2, u3, u4, u5, u6, u7, u10, hvb, hva]
              rw [hva] at hown hwx
              exact ⟨g, gc, rfl, _, w1, hwx, g, gc, rfl, hown, hatg, hgrow⟩
          intro gg gcap wz hcut
          obtain ⟨va, w1, rfl, hgot⟩ := hcut
          have HNx : Box (OfM.Go w l ds M N O V R (k + 1) (w1.setCell ⟨N, x, none⟩ va)) := ⟨⟨bt, upd v x va, vr, vt, by
            rw [HGn.out]
            exact HOW2.out.putRow (r := x) (B := N) (i := x) (k := (it : Int)) (by omega) (Or.inl ⟨hx, rfl, rfl⟩) (by rw [HWv.out, HRL.out]; exact hgot), by rw [HGn.out]; exact HNl.out⟩⟩
          clear hgot
          go_wp2_with fail
          go_roundw
          case rel => exact ⟨k + 1, by omega, by go_num, HNx⟩
          case measure => simp [RowKit.intOf]; omega
        | false =>
          have HSp3 : Box (OfM.run l ds (k + 1) = if kind = 3 ∧ dok = true then { s with rows := OfM.put (x : Int) s.rows (s.rows x), done := s.done ++ [(x : Int)] } else s) := ⟨by rw [HSp2.out, if_neg (fun h => by have := HB2.out.2 h; cases this)]⟩
          by_cases hk3 : kind = 3 ∧ dok = true
          · have HGn : Box (OfM.run l ds (k + 1) = { s with rows := OfM.put (x : Int) s.rows (s.rows x), done := s.done ++ [(x : Int)] }) := ⟨by rw [HSp3.out, if_pos hk3]⟩
            obtain ⟨hk3, rfl⟩ := hk3
            have f1 : (kind == 3) = true := by simpa using hk3
            obtain ⟨wa, wcp, hwv, _, hwi, _, _⟩ := IntsAt.own (HOW2.out.fam.own x (by omega))
            obtain ⟨rl, HRL⟩ : ∃ rl, Box ((s.rows x).length = rl) := ⟨_, ⟨rfl⟩⟩
            rw [HRL.out] at hwv
            have n0 := HOW2.out.nb.tabCell hx
            rw [hwv] at n0
            have hrl : rl ≤ 200 := by have := HBs.out.wr x hx; have := HRL.out; omega
            have HZ0 : Box (∃ v', OfM.OW w M N O V R bt { s with rows := OfM.put (x : Int) s.rows ((s.rows x).take 0) } v' vr vt W2 ∧ v' x = .slice wa rl wcp ∧ Blk W2 C 53 [.int .i64 (x : Int), .int .i64 kind, .int .i64 (it : Int)]) := ⟨v, HOW2.out, hwv, HC2.out⟩
            have hxi : (x : Int) < 12 := by omega
            have hx0 : (0 : Int) ≤ (x : Int) := by omega
            clear hk3 hwv hwi HSp HSp2 HSp3 HB1 HB2
            go_wp2_with fail
            go_loopw [143] (fun t143 wz => ∃ j : Nat, j ≤ rl ∧ t143 = .int .i64 (j : Int) ∧ Box (∃ v', OfM.OW w M N O V R bt { s with rows := OfM.put (x : Int) s.rows ((s.rows x).take j) } v' vr vt wz ∧ v' x = .slice wa rl wcp ∧ Blk wz C 53 [.int .i64 (x : Int), .int .i64 kind, .int .i64 (it : Int)])) (fun t143 _ => rl - (RowKit.intOf t143).toNat)
            case atStart => exact ⟨0, Nat.zero_le _, rfl, HZ0⟩
            case round =>
              obtain ⟨j, hj, rfl, HZ⟩ := hrel
              clear HZ0 n0 e0 e1 e2 d0 d1
              obtain ⟨v2, how4, hv2x, hC4⟩ := HZ.out
              by_cases hjt : j < rl
              · have hjl : j < (s.rows x).length := by rw [HRL.out]; exact hjt
                have hlow : OfM.put (x : Int) s.rows ((s.rows x).take j) x = s.rows x := OfM.put_low _ _ _ _ hx
                obtain ⟨wa2, wcp2, h5, _, hwi, _, _⟩ := IntsAt.own (how4.fam.own x (by omega))
                dsimp only at h5 hwi
                rw [hlow] at hwi h5
                rw [hv2x] at h5
                injection h5 with h5 _ _
                subst h5
                obtain ⟨gb, goff, hga, _, hgrow⟩ := hwi.resolve_left (by intro h; rw [h] at hjl; simp at hjl)
                subst hga
                have g0 := hgrow j hjl
                obtain ⟨hq0, hq1⟩ := HBs.out.it x hx _ (List.getElem_mem hjl)
                have HPs := box (OfM.put_succ (x : Int) s.rows (s.rows x) j hjl)
                generalize (s.rows x)[j] = qq at *
                obtain ⟨q, rfl⟩ := Int.eq_ofNat_of_zero_le hq0
                have hq20 : q < 20 := by omega
                rw [Int.toNat_natCast] at HPs
                obtain ⟨zr, HZr⟩ : ∃ zr, Box (OfM.put (x : Int) s.rows ((s.rows x).take j) = zr) := ⟨_, ⟨rfl⟩⟩
                rw [HZr.out] at how4 HPs
                obtain ⟨z, HZe⟩ : ∃ z : OfSt, Box ({ s with rows := zr } = z) := ⟨_, ⟨rfl⟩⟩
                have HZz : Box (z.rows = zr ∧ z.done = s.done ∧ z.reads = s.reads ∧ z.has = s.has) := ⟨by rw [← HZe.out]; exact ⟨rfl, rfl, rfl, rfl⟩⟩
                rw [HZe.out] at how4
                have HOW4 := box how4; have HC4 := box hC4; have HV2x := box hv2x
                have hzl : (z.rows (12 + q)).length ≤ 40200 := by
                  rw [HZz.out.1, ← HZr.out]
                  have h6 := OfM.put_len (x : Int) ((s.rows x).take j) s.rows (12 + q)
                  have h7 := HBs.out.v (12 + q) (by omega)
                  have h8 := List.length_take_le j (s.rows x)
                  have h9 : k * 200 ≤ 200 * 200 := Nat.mul_le_mul_right 200 (by omega)
                  omega
                clear hgrow hwi how4 hC4 hv2x HZ hlow hq0 hq1
                go_upto_region 21 with (fail)
                obtain ⟨ya, yc, hyv⟩ := own_shape (HOW4.out.fam.own (12 + q) (by omega))
                have HYv := box hyv
                obtain ⟨yl, HYL⟩ : ∃ yl, Box ((z.rows (12 + q)).length = yl) := ⟨_, ⟨rfl⟩⟩
                have HOwn : Box (wr.ownsRow w.heap.size 3 1 (.slice ya yl yc) yl (intVals (z.rows (12 + q)))) := ⟨by
                  have h1 := HOW4.out.fam.own (12 + q) (by omega)
                  rw [hyv, HYL.out] at h1
                  exact h1⟩
                rw [HYL.out] at hzl
                have HCx : Box (∀ wx, wr.grownBy wx (Value.slice ya yl yc).ownBlock → wx.cell? ⟨C, 0, none⟩ = some (.int .i64 (x : Int)) ∧ wx.cell? ⟨O, 1, none⟩ = some (.slice (some ⟨V, 0, none⟩) 20 20) ∧ wx.cell? ⟨V, q, none⟩ = some (.slice ya yl yc) ∧ wx.frozen? ⟨V, q, none⟩ = false) := ⟨fun wx hg => by
                  have h1 := HC4.out.grown hg (HC4.out.ne_own HOwn.out (by decide))
                  have h2 := HOW4.out.vb.grown hg (HOW4.out.vb.ne_own HOwn.out (by decide))
                  have h4 := HOW4.out.ob.grown hg (HOW4.out.ob.ne_own HOwn.out (by decide))
                  have h3 := h2.tabCell hq20
                  rw [hyv, HYL.out] at h3
                  exact ⟨h1.cell rfl, h4.cell rfl, h3, h2.frozen q⟩⟩
                have hVl := HOW4.out.vb.lt
                have hbs := HOW4.out.below.size
                have hqi : (q : Int) < 20 := by omega
                have hq0 : (0 : Int) ≤ (q : Int) := by omega
                clear hyv g0
                refine wp_meetF (fun wz => ∃ va w1, wz = w1.setCell ⟨V, q, none⟩ va ∧ PutR.Got wr (.slice ya yl yc) w.heap.size 3 1 yl (intVals (z.rows (12 + q))) [.int .i64 (x : Int)] va w1) ?_
                apply Exists.intro
                constructor
                · obtain ⟨i0, hi0, hz0, hz1, hz2⟩ := info_partsO Try.infoIntO
                  obtain ⟨PV, HPV⟩ : ∃ PV : Nat → Option Value, Box (PV = fun i => ([some (.pointer (some ⟨O, 1, none⟩)), some (.slice (some ⟨V, 0, none⟩) 20 20), some (.int .i64 (q : Int)), some (.pointer (some ⟨O, 1, none⟩)), some (.slice (some ⟨V, 0, none⟩) 20 20), some (.int .i64 (q : Int)), some (.pointer (some ⟨V, q, none⟩)), some (.slice ya yl yc), some (.pointer (some ⟨C, 0, none⟩)), some (.int .i64 (x : Int)), none, none, some (.pointer (some ⟨V, q, none⟩)), none] : List (Option Value)).getD i none) := ⟨_, ⟨rfl⟩⟩
                  refine wp_region_dagv (by kernel_rfl) (fun Lf vals wx => (∀ i v, PV i = some v → Lf.getD i false = true → vals i = v) ∧ PutR wr (.slice ya yl yc) w.heap.size 3 1 yl (intVals (z.rows (12 + q))) ⟨V, q, none⟩ [.int .i64 (x : Int)] (Lf.getD 10 false) (Lf.getD 11 false) (Lf.getD 13 false) (vals 10) (vals 11) wx) (by kernel_rfl) ?_ ?_ ?_
                  · refine ⟨fun i v _ h => absurd h (by simp [Array.getD_eq_getD_getElem?, Array.getElem?_replicate]; try (split <;> simp)), ?_⟩
                    simp only [Array.getD_eq_getD_getElem?, Array.getElem?_replicate, List.size_toArray, List.length_cons, List.length_nil, Nat.reduceAdd, Nat.reduceLT, if_true, Option.getD_some]
                    exact PutR.start
                  · intro i hi o ho Lf vals b wx hat haft hL hR
                    obtain ⟨hP, hS⟩ := hR
                    have hco := hat.const
                    have hkeep : ∀ i v, (PV i = some v ∨ PV i = none) → Lf.getD i true = false → (∀ j u, PV j = some u → (Lf.setIfInBounds i true).getD j false = true → Dag.turn vals i v j = u) := fun i v hv hL j u hu hj => by
                      by_cases e : j = i
                      · subst e; rw [Dag.turn_same]; rcases hv with hv | hv <;> rw [hv] at hu <;> simp at hu; exact hu
                      · rw [Dag.turn_other _ _ e]; rw [getD_set_ne false (Ne.symm e)] at hj; exact hP j u hu hj
                    have r8 : b.eval (.tmp 8) = .pointer (some ⟨O, 0, none⟩) := hat.old 8 (by
                      intro j o' hj
                      match j with
                      | 0 | 1 | 2 | 3 | 4 | 5 | 6 | 7 | 8 | 9 | 10 | 11 | 12 | 13 => injection hj with hj; subst hj; simp
                      | j + 14 => cases hj)
                    have r12 : b.eval (.tmp 12) = .int .i64 (q : Int) := hat.old 12 (by
                      intro j o' hj
                      match j with
                      | 0 | 1 | 2 | 3 | 4 | 5 | 6 | 7 | 8 | 9 | 10 | 11 | 12 | 13 => injection hj with hj; subst hj; simp
                      | j + 14 => cases hj)
                    have r10 : b.eval (.tmp 10) = .pointer (some ⟨C, 0, none⟩) := hat.old 10 (by
                      intro j o' hj
                      match j with
                      | 0 | 1 | 2 | 3 | 4 | 5 | 6 | 7 | 8 | 9 | 10 | 11 | 12 | 13 => injection hj with hj; subst hj; simp
                      | j + 14 => cases hj)
                    match i, hi with
                    | 0, _ =>
                      injection ho with ho
                      subst ho
                      have q13 : Lf.getD 13 false = false := by
                        cases h : Lf.getD 13 false with
                        | false => rfl
                        | true => have := hat.closed 13 _ h rfl ⟨0, .phase⟩ (by simp) rfl; rw [Dag.off hL] at this; cases this
                      have hg := hS.g q13
                      obtain ⟨c0, o1, b1, z1⟩ := HCx.out wx hg
                      refine Dag.yields (w' := wx) (.pointer (some ⟨O, 1, none⟩)) ?_ ⟨.pointer (some ⟨O, 1, none⟩), rfl, hkeep 0 _ (Or.inl (by rw [HPV.out]; rfl)) hL, ?_⟩
                      · clear hP hS hat haft hkeep hL hg q13
                        generalize b.eval = ρ at *
                        go_simp
                      · simp only [getD_set_ne false (show 0 ≠ 10 by decide), getD_set_ne false (show 0 ≠ 11 by decide), getD_set_ne false (show 0 ≠ 13 by decide), Dag.turn_other vals (i := 0) (j := 10) _ (by decide), Dag.turn_other vals (i := 0) (j := 11) _ (by decide)]
                        exact hS
                    | 1, _ =>
                      injection ho with ho
                      subst ho
                      have e147 : b.eval (.tmp 147) = .pointer (some ⟨O, 1, none⟩) := (hat.new 0 _ 147 (haft ⟨0, .data⟩ (by simp) rfl) rfl rfl).trans (hP 0 _ (by rw [HPV.out]; rfl) (haft ⟨0, .data⟩ (by simp) rfl))
                      have q13 : Lf.getD 13 false = false := by
                        cases h : Lf.getD 13 false with
                        | false => rfl
                        | true => have := hat.closed 13 _ h rfl ⟨1, .phase⟩ (by simp) rfl; rw [Dag.off hL] at this; cases this
                      have hg := hS.g q13
                      obtain ⟨c0, o1, b1, z1⟩ := HCx.out wx hg
                      refine Dag.yields (w' := wx) (.slice (some ⟨V, 0, none⟩) 20 20) ?_ ⟨.slice (some ⟨V, 0, none⟩) 20 20, rfl, hkeep 1 _ (Or.inl (by rw [HPV.out]; rfl)) hL, ?_⟩
                      · clear hP hS hat haft hkeep hL hg q13
                        generalize b.eval = ρ at *
                        go_simp
                      · simp only [getD_set_ne false (show 1 ≠ 10 by decide), getD_set_ne false (show 1 ≠ 11 by decide), getD_set_ne false (show 1 ≠ 13 by decide), Dag.turn_other vals (i := 1) (j := 10) _ (by decide), Dag.turn_other vals (i := 1) (j := 11) _ (by decide)]
                        exact hS
                    | 2, _ =>
                      injection ho with ho
                      subst ho
                      have q13 : Lf.getD 13 false = false := by
                        cases h : Lf.getD 13 false with
                        | false => rfl
                        | true => have := hat.closed 13 _ h rfl ⟨2, .phase⟩ (by simp) rfl; rw [Dag.off hL] at this; cases this
                      have hg := hS.g q13
                      obtain ⟨c0, o1, b1, z1⟩ := HCx.out wx hg
                      refine Dag.yields (w' := wx) (.int .i64 (q : Int)) ?_ ⟨.int .i64 (q : Int), rfl, hkeep 2 _ (Or.inl (by rw [HPV.out]; rfl)) hL, ?_⟩
                      · clear hP hS hat haft hkeep hL hg q13
                        generalize b.eval = ρ at *
                        go_simp
                      · simp only [getD_set_ne false (show 2 ≠ 10 by decide), getD_set_ne false (show 2 ≠ 11 by decide), getD_set_ne false (show 2 ≠ 13 by decide), Dag.turn_other vals (i := 2) (j := 10) _ (by decide), Dag.turn_other vals (i := 2) (j := 11) _ (by decide)]
                        exact hS
                    | 3, _ =>
                      injection ho with ho
                      subst ho
                      have q13 : Lf.getD 13 false = false := by
                        cases h : Lf.getD 13 false with
                        | false => rfl
                        | true => have := hat.closed 13 _ h rfl ⟨3, .phase⟩ (by simp) rfl; rw [Dag.off hL] at this; cases this
                      have hg := hS.g q13
                      obtain ⟨c0, o1, b1, z1⟩ := HCx.out wx hg
                      refine Dag.yields (w' := wx) (.pointer (some ⟨O, 1, none⟩)) ?_ ⟨.pointer (some ⟨O, 1, none⟩), rfl, hkeep 3 _ (Or.inl (by rw [HPV.out]; rfl)) hL, ?_⟩
                      · clear hP hS hat haft hkeep hL hg q13
                        generalize b.eval = ρ at *
                        go_simp
                      · simp only [getD_set_ne false (show 3 ≠ 10 by decide), getD_set_ne false (show 3 ≠ 11 by decide), getD_set_ne false (show 3 ≠ 13 by decide), Dag.turn_other vals (i := 3) (j := 10) _ (by decide), Dag.turn_other vals (i := 3) (j := 11) _ (by decide)]
                        exact hS
                    | 4, _ =>
                      injection ho with ho
                      subst ho
                      have e150 : b.eval (.tmp 150) = .pointer (some ⟨O, 1, none⟩) := (hat.new 3 _ 150 (haft ⟨3, .data⟩ (by simp) rfl) rfl rfl).trans (hP 3 _ (by rw [HPV.out]; rfl) (haft ⟨3, .data⟩ (by simp) rfl))
                      have q13 : Lf.getD 13 false = false := by
                        cases h : Lf.getD 13 false with
                        | false => rfl
                        | true => have := hat.closed 13 _ h rfl ⟨4, .phase⟩ (by simp) rfl; rw [Dag.off hL] at this; cases this
                      have hg := hS.g q13
                      obtain ⟨c0, o1, b1, z1⟩ := HCx.out wx hg
                      refine Dag.yields (w' := wx) (.slice (some ⟨V, 0, none⟩) 20 20) ?_ ⟨.slice (some ⟨V, 0, none⟩) 20 20, rfl, hkeep 4 _ (Or.inl (by rw [HPV.out]; rfl)) hL, ?_⟩
                      · clear hP hS hat haft hkeep hL hg q13
                        generalize b.eval = ρ at *
                        go_simp
                      · simp only [getD_set_ne false (show 4 ≠ 10 by decide), getD_set_ne false (show 4 ≠ 11 by decide), getD_set_ne false (show 4 ≠ 13 by decide), Dag.turn_other vals (i := 4) (j := 10) _ (by decide), Dag.turn_other vals (i := 4) (j := 11) _ (by decide)]
                        exact hS
                    | 5, _ =>
                      injection ho with ho
                      subst ho
                      have q13 : Lf.getD 13 false = false := by
                        cases h : Lf.getD 13 false with
                        | false => rfl
                        | true => have := hat.closed 13 _ h rfl ⟨5, .phase⟩ (by simp) rfl; rw [Dag.off hL] at this; cases this
                      have hg := hS.g q13
                      obtain ⟨c0, o1, b1, z1⟩ := HCx.out wx hg
                      refine Dag.yields (w' := wx) (.int .i64 (q : Int)) ?_ ⟨.int .i64 (q : Int), rfl, hkeep 5 _ (Or.inl (by rw [HPV.out]; rfl)) hL, ?_⟩
                      · clear hP hS hat haft hkeep hL hg q13
                        generalize b.eval = ρ at *
                        go_simp
                      · simp only [getD_set_ne false (show 5 ≠ 10 by decide), getD_set_ne false (show 5 ≠ 11 by decide), getD_set_ne false (show 5 ≠ 13 by decide), Dag.turn_other vals (i := 5) (j := 10) _ (by decide), Dag.turn_other vals (i := 5) (j := 11) _ (by decide)]
                        exact hS
                    | 6, _ =>
                      injection ho with ho
                      subst ho
                      have e151 : b.eval (.tmp 151) = .slice (some ⟨V, 0, none⟩) 20 20 := (hat.new 4 _ 151 (haft ⟨4, .data⟩ (by simp) rfl) rfl rfl).trans (hP 4 _ (by rw [HPV.out]; rfl) (haft ⟨4, .data⟩ (by simp) rfl))
                      have e152 : b.eval (.tmp 152) = .int .i64 (q : Int) := (hat.new 5 _ 152 (haft ⟨5, .data⟩ (by simp) rfl) rfl rfl).trans (hP 5 _ (by rw [HPV.out]; rfl) (haft ⟨5, .data⟩ (by simp) rfl))
                      have q13 : Lf.getD 13 false = false := by
                        cases h : Lf.getD 13 false with
                        | false => rfl
                        | true => have := hat.closed 13 _ h rfl ⟨6, .phase⟩ (by simp) rfl; rw [Dag.off hL] at this; cases this
                      have hg := hS.g q13
                      obtain ⟨c0, o1, b1, z1⟩ := HCx.out wx hg
                      refine Dag.yields (w' := wx) (.pointer (some ⟨V, q, none⟩)) ?_ ⟨.pointer (some ⟨V, q, none⟩), rfl, hkeep 6 _ (Or.inl (by rw [HPV.out]; rfl)) hL, ?_⟩
                      · clear hP hS hat haft hkeep hL hg q13
                        generalize b.eval = ρ at *
                        go_simp
                      · simp only [getD_set_ne false (show 6 ≠ 10 by decide), getD_set_ne false (show 6 ≠ 11 by decide), getD_set_ne false (show 6 ≠ 13 by decide), Dag.turn_other vals (i := 6) (j := 10) _ (by decide), Dag.turn_other vals (i := 6) (j := 11) _ (by decide)]
                        exact hS
                    | 7, _ =>
                      injection ho with ho
                      subst ho
                      have e153 : b.eval (.tmp 153) = .pointer (some ⟨V, q, none⟩) := (hat.new 6 _ 153 (haft ⟨6, .data⟩ (by simp) rfl) rfl rfl).trans (hP 6 _ (by rw [HPV.out]; rfl) (haft ⟨6, .data⟩ (by simp) rfl))
                      have q13 : Lf.getD 13 false = false := by
                        cases h : Lf.getD 13 false with
                        | false => rfl
                        | true => have := hat.closed 13 _ h rfl ⟨7, .phase⟩ (by simp) rfl; rw [Dag.off hL] at this; cases this
                      have hg := hS.g q13
                      obtain ⟨c0, o1, b1, z1⟩ := HCx.out wx hg
                      refine Dag.yields (w' := wx) (.slice ya yl yc) ?_ ⟨.slice ya yl yc, rfl, hkeep 7 _ (Or.inl (by rw [HPV.out]; rfl)) hL, ?_⟩
                      · clear hP hS hat haft hkeep hL hg q13
                        generalize b.eval = ρ at *
                        go_simp
                      · simp only [getD_set_ne false (show 7 ≠ 10 by decide), getD_set_ne false (show 7 ≠ 11 by decide), getD_set_ne false (show 7 ≠ 13 by decide), Dag.turn_other vals (i := 7) (j := 10) _ (by decide), Dag.turn_other vals (i := 7) (j := 11) _ (by decide)]
                        exact hS
                    | 8, _ =>
                      injection ho with ho
                      subst ho
                      have q13 : Lf.getD 13 false = false := by
                        cases h : Lf.getD 13 false with
                        | false => rfl
                        | true => have := hat.closed 13 _ h rfl ⟨8, .phase⟩ (by simp) rfl; rw [Dag.off hL] at this; cases this
                      have hg := hS.g q13
                      obtain ⟨c0, o1, b1, z1⟩ := HCx.out wx hg
                      refine Dag.yields (w' := wx) (.pointer (some ⟨C, 0, none⟩)) ?_ ⟨.pointer (some ⟨C, 0, none⟩), rfl, hkeep 8 _ (Or.inl (by rw [HPV.out]; rfl)) hL, ?_⟩
                      · clear hP hS hat haft hkeep hL hg q13
                        generalize b.eval = ρ at *
                        go_simp
                      · simp only [getD_set_ne false (show 8 ≠ 10 by decide), getD_set_ne false (show 8 ≠ 11 by decide), getD_set_ne false (show 8 ≠ 13 by decide), Dag.turn_other vals (i := 8) (j := 10) _ (by decide), Dag.turn_other vals (i := 8) (j := 11) _ (by decide)]
                        exact hS
                    | 9, _ =>
                      injection ho with ho
                      subst ho
                      have e155 : b.eval (.tmp 155) = .pointer (some ⟨C, 0, none⟩) := (hat.new 8 _ 155 (haft ⟨8, .data⟩ (by simp) rfl) rfl rfl).trans (hP 8 _ (by rw [HPV.out]; rfl) (haft ⟨8, .data⟩ (by simp) rfl))
                      have q13 : Lf.getD 13 false = false := by
                        cases h : Lf.getD 13 false with
                        | false => rfl
                        | true => have := hat.closed 13 _ h rfl ⟨9, .phase⟩ (by simp) rfl; rw [Dag.off hL] at this; cases this
                      have hg := hS.g q13
                      obtain ⟨c0, o1, b1, z1⟩ := HCx.out wx hg
                      refine Dag.yields (w' := wx) (.int .i64 (x : Int)) ?_ ⟨.int .i64 (x : Int), rfl, hkeep 9 _ (Or.inl (by rw [HPV.out]; rfl)) hL, ?_⟩
                      · clear hP hS hat haft hkeep hL hg q13
                        generalize b.eval = ρ at *
                        go_simp
                      · simp only [getD_set_ne false (show 9 ≠ 10 by decide), getD_set_ne false (show 9 ≠ 11 by decide), getD_set_ne false (show 9 ≠ 13 by decide), Dag.turn_other vals (i := 9) (j := 10) _ (by decide), Dag.turn_other vals (i := 9) (j := 11) _ (by decide)]
                        exact hS
                    | 10, _ =>
                      injection ho with ho
                      subst ho
                      have e156 : b.eval (.tmp 156) = .int .i64 (x : Int) := (hat.new 9 _ 156 (haft ⟨9, .data⟩ (by simp) rfl) rfl rfl).trans (hP 9 _ (by rw [HPV.out]; rfl) (haft ⟨9, .data⟩ (by simp) rfl))
                      have q13 : Lf.getD 13 false = false := by
                        cases h : Lf.getD 13 false with
                        | false => rfl
                        | true => have := hat.closed 13 _ h rfl ⟨10, .phase⟩ (by simp) rfl; rw [Dag.off hL] at this; cases this
                      have hg := hS.g q13
                      obtain ⟨c0, o1, b1, z1⟩ := HCx.out wx hg
                      have q11 : Lf.getD 11 false = false := by
                        cases h : Lf.getD 11 false with
                        | false => rfl
                        | true => have := hat.closed 11 _ h rfl ⟨10, .data⟩ (by simp) rfl; rw [Dag.off hL] at this; cases this
                      rw [q11, q13, Dag.off hL] at hS
                      refine Dag.yields (w' := wx.alloc (.cells #[.int .i64 (x : Int)] 3)) (.slice (some ⟨wx.heap.size, 0, none⟩) 1 1) ?_ ⟨_, rfl, hkeep 10 _ (Or.inr (by rw [HPV.out]; rfl)) hL, ?_⟩
                      · clear hP hS hat haft hkeep hL hg
                        generalize b.eval = ρ at *
                        go_simp
                      rw [Dag.on hL]
                      simp only [getD_set_ne false (show 10 ≠ 11 by decide), getD_set_ne false (show 10 ≠ 13 by decide), Dag.turn_same, Dag.turn_other vals (i := 10) (j := 11) _ (by decide)]
                      rw [q11, q13]
                      exact hS.lay
                    | 11, _ =>
                      injection ho with ho
                      subst ho
                      have e154 : b.eval (.tmp 154) = .slice ya yl yc := (hat.new 7 _ 154 (haft ⟨7, .data⟩ (by simp) rfl) rfl rfl).trans (hP 7 _ (by rw [HPV.out]; rfl) (haft ⟨7, .data⟩ (by simp) rfl))
                      have e157 : b.eval (.tmp 157) = vals 10 := hat.new 10 _ 157 (haft ⟨10, .data⟩ (by simp) rfl) rfl rfl
                      have l10 : Lf.getD 10 false = true := haft ⟨10, .data⟩ (by simp) rfl
                      have q13 : Lf.getD 13 false = false := by
                        cases h : Lf.getD 13 false with
                        | false => rfl
                        | true => have := hat.closed 13 _ h rfl ⟨11, .phase⟩ (by simp) rfl; rw [Dag.off hL] at this; cases this
                      have hg := hS.g q13
                      obtain ⟨c0, o1, b1, z1⟩ := HCx.out wx hg
                      rw [l10, q13, Dag.off hL] at hS
                      have hbl := hS.a rfl rfl
                      have hown := ownsRow_below (HOwn.out) hbl
                      have hvb := hS.b rfl
                      have hkb := hS.k rfl rfl rfl
                      have hsz := hbl.size
                      refine wp_append_lies wx _ _ 31 rfl (w.heap.size) 3 i0 _ 1 8 Try.underlying31 hi0 hz0 hz1 hz2 rfl (by decide) (.slice ya yl yc) (yl) (intVals (z.rows (12 + q))) e154 hown ⟨_, 0, none⟩ 1 1 [.int .i64 (x : Int)] (e157.trans hvb) rfl (World.news_of_block (cs := #[.int .i64 (x : Int)]) (t := 3) (fr := (0, 0)) hkb) (by simp [Value.oneCell']) (by omega) (by unfold maxLen; omega) (by omega) (by have := hsz; omega) _ rfl ?_
                      intro g gc w'' hown2 hgrow hatg hltg
                      refine ⟨_, rfl, hkeep 11 _ (Or.inr (by rw [HPV.out]; rfl)) hL, ?_⟩
                      rw [Dag.on hL]
                      simp only [getD_set_ne false (show 11 ≠ 10 by decide), getD_set_ne false (show 11 ≠ 13 by decide), Dag.turn_same, Dag.turn_other vals (i := 11) (j := 10) _ (by decide)]
                      rw [l10, q13]
                      exact hS.app hown2 hgrow hatg
                    | 12, _ =>
                      injection ho with ho
                      subst ho
                      have e148 : b.eval (.tmp 148) = .slice (some ⟨V, 0, none⟩) 20 20 := (hat.new 1 _ 148 (haft ⟨1, .data⟩ (by simp) rfl) rfl rfl).trans (hP 1 _ (by rw [HPV.out]; rfl) (haft ⟨1, .data⟩ (by simp) rfl))
                      have e149 : b.eval (.tmp 149) = .int .i64 (q : Int) := (hat.new 2 _ 149 (haft ⟨2, .data⟩ (by simp) rfl) rfl rfl).trans (hP 2 _ (by rw [HPV.out]; rfl) (haft ⟨2, .data⟩ (by simp) rfl))
                      have q13 : Lf.getD 13 false = false := by
                        cases h : Lf.getD 13 false with
                        | false => rfl
                        | true =>
                          have h12 := hat.closed 13 _ h rfl ⟨12, .data⟩ (by simp) rfl
                          rw [Dag.off hL] at h12; cases h12
                      have hg := hS.g q13
                      obtain ⟨c0, o1, b1, z1⟩ := HCx.out wx hg
                      refine Dag.yields (w' := wx) (.pointer (some ⟨V, q, none⟩)) ?_ ⟨.pointer (some ⟨V, q, none⟩), rfl, hkeep 12 _ (Or.inl (by rw [HPV.out]; rfl)) hL, ?_⟩
                      · clear hP hS hat haft hkeep hL hg q13
                        generalize b.eval = ρ at *
                        go_simp
                      · simp only [getD_set_ne false (show 12 ≠ 10 by decide), getD_set_ne false (show 12 ≠ 11 by decide), getD_set_ne false (show 12 ≠ 13 by decide), Dag.turn_other vals (i := 12) (j := 10) _ (by decide), Dag.turn_other vals (i := 12) (j := 11) _ (by decide)]
                        exact hS
                    | 13, _ =>
                      injection ho with ho
                      subst ho
                      have e159 : b.eval (.tmp 159) = .pointer (some ⟨V, q, none⟩) := (hat.new 12 _ 159 (haft ⟨12, .data⟩ (by simp) rfl) rfl rfl).trans (hP 12 _ (by rw [HPV.out]; rfl) (haft ⟨12, .data⟩ (by simp) rfl))
                      have e158 : b.eval (.tmp 158) = vals 11 := hat.new 11 _ 158 (haft ⟨11, .data⟩ (by simp) rfl) rfl rfl
                      have l11 : Lf.getD 11 false = true := haft ⟨11, .data⟩ (by simp) rfl
                      have lb : Lf.getD 10 false = true := hat.closed 11 _ l11 rfl ⟨10, .data⟩ (by simp) rfl
                      rw [lb, l11, Dag.off hL] at hS
                      have hg := hS.g rfl
                      obtain ⟨c0, o1, b1, z1⟩ := HCx.out wx hg
                      obtain ⟨g, gc, hva, _⟩ := hS.c rfl rfl
                      have hput := hS.put
                      rw [hva] at hput
                      have ev := e158.trans hva
                      refine Dag.skips (w' := wx.setCell (⟨V, q, none⟩) (.slice (some ⟨g, 0, none⟩) (yl + 1) gc)) ?_ ⟨_, rfl, hkeep 13 _ (Or.inr (by rw [HPV.out]; rfl)) hL, ?_⟩
                      · clear hP hS hat haft hkeep hL hg hput e158 hva
                        generalize b.eval = ρ at *
                        go_simp
                      rw [Dag.on hL]
                      simp only [getD_set_ne false (show 13 ≠ 10 by decide), getD_set_ne false (show 13 ≠ 11 by decide), Dag.turn_other vals (i := 13) (j := 10) _ (by decide), Dag.turn_other vals (i := 13) (j := 11) _ (by decide)]
                      rw [lb, l11, hva]
                      exact hput
                    | i + 14, h => exact absurd h (by simp)
                  · intro Lf vals wx hall hR
                    obtain ⟨hP, hS⟩ := hR
                    rw [hall 10 (by simp), hall 11 (by simp), hall 13 (by simp)] at hS
                    obtain ⟨w1, hwx, g, gc, hva, hown, hatg, hgrow⟩ := hS.d rfl
                    have hvb := hS.b rfl
                    have u0 := hP 0 _ (by rw [HPV.out]; rfl) (hall 0 (by simp))
                    have u1 := hP 1 _ (by rw [HPV.out]; rfl) (hall 1 (by simp))
                    have u2 := hP 2 _ (by rw [HPV.out]; rfl) (hall 2 (by simp))
                    have u3 := hP 3 _ (by rw [HPV.out]; rfl) (hall 3 (by simp))
                    have u4 := hP 4 _ (by rw [HPV.out]; rfl) (hall 4 (by simp))
                    have u5 := hP 5 _ (by rw [HPV.out]; rfl) (hall 5 (by simp))
                    have u6 := hP 6 _ (by rw [HPV.out]; rfl) (hall 6 (by simp))
                    have u7 := hP 7 _ (by rw [HPV.out]; rfl) (hall 7 (by simp))
                    have u8 := hP 8 _ (by rw [HPV.out]; rfl) (hall 8 (by simp))
                    have u9 := hP 9 _ (by rw [HPV.out]; rfl) (hall 9 (by simp))
                    have u12 := hP 12 _ (by rw [HPV.out]; rfl) (hall 12 (by simp))
                    simp only [Dag.all, List.size_toArray, List.length_cons, List.length_nil, Nat.reduceAdd, Act.put, List.getElem?_toArray, List.getElem?_cons_zero, List.getElem?_cons_succ, Option.bind_some, List.setIfInBounds_toArray, List.set_cons_zero, List.set_cons_succ]
                    rw [u0, u1, u2, u3, u4, u5, u6, u7, u8, u9, u12, hvb, hva]
                    rw [hva] at hown hwx
                    exact ⟨g, gc, rfl, _, w1, hwx, g, gc, rfl, hown, hatg, hgrow⟩
                intro gg gcap wz hcut
                obtain ⟨va, w1, rfl, hgot⟩ := hcut
                have HNx : Box (∃ v', OfM.OW w M N O V R bt { s with rows := OfM.put (x : Int) s.rows ((s.rows x).take (j + 1)) } v' vr vt (w1.setCell ⟨V, q, none⟩ va) ∧ v' x = .slice (some ⟨gb, goff, none⟩) rl wcp ∧ Blk (w1.setCell ⟨V, q, none⟩ va) C 53 [.int .i64 (x : Int), .int .i64 kind, .int .i64 (it : Int)]) := ⟨by
                  refine ⟨upd v2 (12 + q) va, ?_, by rw [upd_other _ _ (by omega)]; exact HV2x.out, ?_⟩
                  · have h1 := HOW4.out.putRow (r := 12 + q) (B := V) (i := q) (k := (x : Int)) (by omega) (Or.inr ⟨by omega, rfl, by omega⟩) (by rw [HYv.out, HYL.out]; exact hgot)
                    rw [HPs.out]
                    have h2 : ({ z with rows := upd z.rows (12 + q) (z.rows (12 + q) ++ [(x : Int)]) } : OfSt) = { s with rows := upd zr (12 + q) (zr (12 + q) ++ [(x : Int)]) } := by rw [← HZe.out]
                    rw [h2] at h1
                    exact h1
                  · obtain ⟨g, gc, rfl, _, _, hg⟩ := hgot
                    have h1 := HC4.out.grown hg (HC4.out.ne_own HOwn.out (by decide))
                    exact h1.other (HC4.out.ne HOW4.out.vb (by decide)) _⟩
                clear hgot
                go_wp2_with fail
                go_roundw
                case rel => exact ⟨j + 1, by omega, by go_num, HNx⟩
                case measure => simp [RowKit.intOf]; omega
              · obtain rfl : j = rl := by omega
                have htk : (s.rows x).take j = s.rows x := List.take_of_length_le (by have := HRL.out; omega)
                rw [htk] at how4
                obtain ⟨z, HZe⟩ : ∃ z : OfSt, Box (({ s with rows := OfM.put (x : Int) s.rows (s.rows x) } : OfSt) = z) := ⟨_, ⟨rfl⟩⟩
                have HZz : Box (z.done = s.done ∧ z.reads = s.reads ∧ z.has = s.has) := ⟨by rw [← HZe.out]; exact ⟨rfl, rfl, rfl⟩⟩
                rw [HZe.out] at how4
                have HOW5 := box how4; have HC5 := box hC4
                clear how4 hC4 hv2x HZ htk
                go_upto_region 23 with (fail)
                obtain ⟨W5, HW5⟩ : ∃ W5, Box (wr = W5) := ⟨_, ⟨rfl⟩⟩
                rw [HW5.out] at HOW5 HC5 ⊢
                clear HW5
                obtain ⟨ta, tc, htv⟩ := own_shape HOW5.out.tl
                have HTv := box htv
                obtain ⟨ra, rc, hrv⟩ := own_shape (HOW5.out.fr.own x hx)
                have HRv := box hrv
                obtain ⟨tl, HTL⟩ : ∃ tl, Box (z.done.length = tl) := ⟨_, ⟨rfl⟩⟩
                obtain ⟨rl, HRL2⟩ : ∃ rl, Box ((z.reads x).length = rl) := ⟨_, ⟨rfl⟩⟩
                obtain ⟨B, HBe⟩ : ∃ B, Box (bt x = B) := ⟨_, ⟨rfl⟩⟩
                have HOwn : Box (W5.ownsRow w.heap.size 30 2 (.slice ta tl tc) tl (OfM.talesV vr z.done)) := ⟨by
                  have h1 := HOW5.out.tl
                  rw [htv, HTL.out] at h1
                  exact h1⟩
                have hxz : (x : Int) ∈ z.has := by rw [HZz.out.2.2]; exact HSx.out.1
                have Hxz := box hxz
                have HTb : Box (Blk W5 B 30 [.int .i64 (x : Int), .slice ra rl rc]) := ⟨by
                  have h1 := (HOW5.out.tb x hxz).2
                  rw [hrv, HRL2.out, HBe.out] at h1
                  exact h1⟩
                have HCx : Box (∀ wx, W5.grownBy wx (Value.slice ta tl tc).ownBlock → wx.cell? ⟨C, 0, none⟩ = some (.int .i64 (x : Int)) ∧ wx.cell? ⟨O, 0, none⟩ = some (.slice ta tl tc) ∧ wx.frozen? ⟨O, 0, none⟩ = false ∧ wx.cell? ⟨B, 0, none⟩ = some (.int .i64 (x : Int)) ∧ wx.cell? ⟨B, 1, none⟩ = some (.slice ra rl rc) ∧ (Instr.lookup 132 (.map (some M)) (.int .i64 (x : Int)) false).run Try.prog wx = .ok (.pointer (some ⟨B, 0, none⟩)) wx) := ⟨fun wx hg => by
                  have h1 := HC5.out.grown hg (HC5.out.ne_own HOwn.out (by decide))
                  have h2 : Blk wx B 30 [.int .i64 (x : Int), .slice ra rl rc] := HTb.out.grown hg (by
                    have := HOW5.out.apart x Hxz.out
                    rw [HTv.out, HTL.out, HBe.out] at this
                    exact this)
                  have h3 := HOW5.out.mp.grown hg (fun e => HOW5.out.mp.ne_own HOwn.out e)
                  have h4 := HOW5.out.ob.grown hg (HOW5.out.ob.ne_own HOwn.out (by decide))
                  rw [HTv.out, HTL.out] at h4
                  refine ⟨h1.cell rfl, h4.cell rfl, h4.frozen 0, h2.cell rfl, h2.cell rfl, ?_⟩
                  rw [← HBe.out]
                  exact h3.lookup_some (by rw [List.map_map]; exact (List.map_id z.has).symm ▸ HOW5.out.keys.1) (List.mem_map.2 ⟨(x : Int), Hxz.out, by rw [Int.toNat_natCast]⟩)⟩
                have htl : tl ≤ 200 := by have := HBs.out.d; rw [← HTL.out, HZz.out.1]; omega
                have hOl := HOW5.out.ob.lt
                have hbs := HOW5.out.below.size
                clear htv hrv hxz
                refine wp_meetF (fun wz => ∃ va w1, wz = w1.setCell ⟨O, 0, none⟩ va ∧ PutR.Got W5 (.slice ta tl tc) w.heap.size 30 2 tl (OfM.talesV vr z.done) [.int .i64 (x : Int), .slice ra rl rc] va w1) ?_
                apply Exists.intro
                constructor
                · obtain ⟨i0, hi0, hz0, hz1, hz2⟩ := info_partsO Try.infoTaleO
                  obtain ⟨PV, HPV⟩ : ∃ PV : Nat → Option Value, Box (PV = fun i => ([some (.pointer (some ⟨O, 0, none⟩)), some (.slice ta tl tc), some (.map (some M)), some (.pointer (some ⟨C, 0, none⟩)), some (.int .i64 (x : Int)), some (.pointer (some ⟨B, 0, none⟩)), some (.pointer (some ⟨B, 0, none⟩)), some (.agg #[.int .i64 (x : Int), .slice ra rl rc]), none, none, some (.pointer (some ⟨O, 0, none⟩)), none] : List (Option Value)).getD i none) := ⟨_, ⟨rfl⟩⟩
                  refine wp_region_dagv (by kernel_rfl) (fun Lf vals wx => (∀ i v, PV i = some v → Lf.getD i false = true → vals i = v) ∧ PutR W5 (.slice ta tl tc) w.heap.size 30 2 tl (OfM.talesV vr z.done) ⟨O, 0, none⟩ [.int .i64 (x : Int), .slice ra rl rc] (Lf.getD 8 false) (Lf.getD 9 false) (Lf.getD 11 false) (vals 8) (vals 9) wx) (by kernel_rfl) ?_ ?_ ?_
                  · refine ⟨fun i v _ h => absurd h (by simp [Array.getD_eq_getD_getElem?, Array.getElem?_replicate]; try (split <;> simp)), ?_⟩
                    simp only [Array.getD_eq_getD_getElem?, Array.getElem?_replicate, List.size_toArray, List.length_cons, List.length_nil, Nat.reduceAdd, Nat.reduceLT, if_true, Option.getD_some]
                    exact PutR.start
                  · intro i hi o ho Lf vals b wx hat haft hL hR
                    obtain ⟨hP, hS⟩ := hR
                    have hco := hat.const
                    have hkeep : ∀ i v, (PV i = some v ∨ PV i = none) → Lf.getD i true = false → (∀ j u, PV j = some u → (Lf.setIfInBounds i true).getD j false = true → Dag.turn vals i v j = u) := fun i v hv hL j u hu hj => by
                      by_cases e : j = i
                      · subst e; rw [Dag.turn_same]; rcases hv with hv | hv <;> rw [hv] at hu <;> simp at hu; exact hu
                      · rw [Dag.turn_other _ _ e]; rw [getD_set_ne false (Ne.symm e)] at hj; exact hP j u hu hj
                    have r8 : b.eval (.tmp 8) = .pointer (some ⟨O, 0, none⟩) := hat.old 8 (by
                      intro j o' hj
                      match j with
                      | 0 | 1 | 2 | 3 | 4 | 5 | 6 | 7 | 8 | 9 | 10 | 11 => injection hj with hj; subst hj; simp
                      | j + 12 => cases hj)
                    have r6 : b.eval (.tmp 6) = .map (some M) := hat.old 6 (by
                      intro j o' hj
                      match j with
                      | 0 | 1 | 2 | 3 | 4 | 5 | 6 | 7 | 8 | 9 | 10 | 11 => injection hj with hj; subst hj; simp
                      | j + 12 => cases hj)
                    have r10 : b.eval (.tmp 10) = .pointer (some ⟨C, 0, none⟩) := hat.old 10 (by
                      intro j o' hj
                      match j with
                      | 0 | 1 | 2 | 3 | 4 | 5 | 6 | 7 | 8 | 9 | 10 | 11 => injection hj with hj; subst hj; simp
                      | j + 12 => cases hj)
                    match i, hi with
                    | 0, _ =>
                      injection ho with ho
                      subst ho
                      have q11 : Lf.getD 11 false = false := by
                        cases h : Lf.getD 11 false with
                        | false => rfl
                        | true => have := hat.closed 11 _ h rfl ⟨0, .phase⟩ (by simp) rfl; rw [Dag.off hL] at this; cases this
                      have hg := hS.g q11
                      obtain ⟨c0, o0, z0, b0, b1, hlk⟩ := HCx.out wx hg
                      refine Dag.yields (w' := wx) (.pointer (some ⟨O, 0, none⟩)) ?_ ⟨.pointer (some ⟨O, 0, none⟩), rfl, hkeep 0 _ (Or.inl (by rw [HPV.out]; rfl)) hL, ?_⟩
                      · clear hP hS hat haft hkeep hL hg q11
                        generalize b.eval = ρ at *
                        go_simp
                      · simp only [getD_set_ne false (show 0 ≠ 8 by decide), getD_set_ne false (show 0 ≠ 9 by decide), getD_set_ne false (show 0 ≠ 11 by decide), Dag.turn_other vals (i := 0) (j := 8) _ (by decide), Dag.turn_other vals (i := 0) (j := 9) _ (by decide)]
                        exact hS
                    | 1, _ =>
                      injection ho with ho
                      subst ho
                      have e161 : b.eval (.tmp 161) = .pointer (some ⟨O, 0, none⟩) := (hat.new 0 _ 161 (haft ⟨0, .data⟩ (by simp) rfl) rfl rfl).trans (hP 0 _ (by rw [HPV.out]; rfl) (haft ⟨0, .data⟩ (by simp) rfl))
                      have q11 : Lf.getD 11 false = false := by
                        cases h : Lf.getD 11 false with
                        | false => rfl
                        | true => have := hat.closed 11 _ h rfl ⟨1, .phase⟩ (by simp) rfl; rw [Dag.off hL] at this; cases this
                      have hg := hS.g q11
                      obtain ⟨c0, o0, z0, b0, b1, hlk⟩ := HCx.out wx hg
                      refine Dag.yields (w' := wx) (.slice ta tl tc) ?_ ⟨.slice ta tl tc, rfl, hkeep 1 _ (Or.inl (by rw [HPV.out]; rfl)) hL, ?_⟩
                      · clear hP hS hat haft hkeep hL hg q11
                        generalize b.eval = ρ at *
                        go_simp
                      · simp only [getD_set_ne false (show 1 ≠ 8 by decide), getD_set_ne false (show 1 ≠ 9 by decide), getD_set_ne false (show 1 ≠ 11 by decide), Dag.turn_other vals (i := 1) (j := 8) _ (by decide), Dag.turn_other vals (i := 1) (j := 9) _ (by decide)]
                        exact hS
                    | 2, _ =>
                      injection ho with ho
                      subst ho
                      have q11 : Lf.getD 11 false = false := by
                        cases h : Lf.getD 11 false with
                        | false => rfl
                        | true => have := hat.closed 11 _ h rfl ⟨2, .phase⟩ (by simp) rfl; rw [Dag.off hL] at this; cases this
                      have hg := hS.g q11
                      obtain ⟨c0, o0, z0, b0, b1, hlk⟩ := HCx.out wx hg
                      refine Dag.yields (w' := wx) (.map (some M)) ?_ ⟨.map (some M), rfl, hkeep 2 _ (Or.inl (by rw [HPV.out]; rfl)) hL, ?_⟩
                      · clear hP hS hat haft hkeep hL hg q11
                        generalize b.eval = ρ at *
                        go_simp
                      · simp only [getD_set_ne false (show 2 ≠ 8 by decide), getD_set_ne false (show 2 ≠ 9 by decide), getD_set_ne false (show 2 ≠ 11 by decide), Dag.turn_other vals (i := 2) (j := 8) _ (by decide), Dag.turn_other vals (i := 2) (j := 9) _ (by decide)]
                        exact hS
                    | 3, _ =>
                      injection ho with ho
                      subst ho
                      have q11 : Lf.getD 11 false = false := by
                        cases h : Lf.getD 11 false with
                        | false => rfl
                        | true => have := hat.closed 11 _ h rfl ⟨3, .phase⟩ (by simp) rfl; rw [Dag.off hL] at this; cases this
                      have hg := hS.g q11
                      obtain ⟨c0, o0, z0, b0, b1, hlk⟩ := HCx.out wx hg
                      refine Dag.yields (w' := wx) (.pointer (some ⟨C, 0, none⟩)) ?_ ⟨.pointer (some ⟨C, 0, none⟩), rfl, hkeep 3 _ (Or.inl (by rw [HPV.out]; rfl)) hL, ?_⟩
                      · clear hP hS hat haft hkeep hL hg q11
                        generalize b.eval = ρ at *
                        go_simp
                      · simp only [getD_set_ne false (show 3 ≠ 8 by decide), getD_set_ne false (show 3 ≠ 9 by decide), getD_set_ne false (show 3 ≠ 11 by decide), Dag.turn_other vals (i := 3) (j := 8) _ (by decide), Dag.turn_other vals (i := 3) (j := 9) _ (by decide)]
                        exact hS
                    | 4, _ =>
                      injection ho with ho
                      subst ho
                      have e164 : b.eval (.tmp 164) = .pointer (some ⟨C, 0, none⟩) := (hat.new 3 _ 164 (haft ⟨3, .data⟩ (by simp) rfl) rfl rfl).trans (hP 3 _ (by rw [HPV.out]; rfl) (haft ⟨3, .data⟩ (by simp) rfl))
                      have q11 : Lf.getD 11 false = false := by
                        cases h : Lf.getD 11 false with
                        | false => rfl
                        | true => have := hat.closed 11 _ h rfl ⟨4, .phase⟩ (by simp) rfl; rw [Dag.off hL] at this; cases this
                      have hg := hS.g q11
                      obtain ⟨c0, o0, z0, b0, b1, hlk⟩ := HCx.out wx hg
                      refine Dag.yields (w' := wx) (.int .i64 (x : Int)) ?_ ⟨.int .i64 (x : Int), rfl, hkeep 4 _ (Or.inl (by rw [HPV.out]; rfl)) hL, ?_⟩
                      · clear hP hS hat haft hkeep hL hg q11
                        generalize b.eval = ρ at *
                        go_simp
                      · simp only [getD_set_ne false (show 4 ≠ 8 by decide), getD_set_ne false (show 4 ≠ 9 by decide), getD_set_ne false (show 4 ≠ 11 by decide), Dag.turn_other vals (i := 4) (j := 8) _ (by decide), Dag.turn_other vals (i := 4) (j := 9) _ (by decide)]
                        exact hS
                    | 5, _ =>
                      injection ho with ho
                      subst ho
                      have e163 : b.eval (.tmp 163) = .map (some M) := (hat.new 2 _ 163 (haft ⟨2, .data⟩ (by simp) rfl) rfl rfl).trans (hP 2 _ (by rw [HPV.out]; rfl) (haft ⟨2, .data⟩ (by simp) rfl))
                      have e165 : b.eval (.tmp 165) = .int .i64 (x : Int) := (hat.new 4 _ 165 (haft ⟨4, .data⟩ (by simp) rfl) rfl rfl).trans (hP 4 _ (by rw [HPV.out]; rfl) (haft ⟨4, .data⟩ (by simp) rfl))
                      have q11 : Lf.getD 11 false = false := by
                        cases h : Lf.getD 11 false with
                        | false => rfl
                        | true => have := hat.closed 11 _ h rfl ⟨5, .phase⟩ (by simp) rfl; rw [Dag.off hL] at this; cases this
                      have hg := hS.g q11
                      obtain ⟨c0, o0, z0, b0, b1, hlk⟩ := HCx.out wx hg
                      refine Dag.yields (w' := wx) (.pointer (some ⟨B, 0, none⟩)) ?_ ⟨.pointer (some ⟨B, 0, none⟩), rfl, hkeep 5 _ (Or.inl (by rw [HPV.out]; rfl)) hL, ?_⟩
                      · clear hP hS hat haft hkeep hL hg q11
                        generalize b.eval = ρ at *
                        go_simp
                      · simp only [getD_set_ne false (show 5 ≠ 8 by decide), getD_set_ne false (show 5 ≠ 9 by decide), getD_set_ne false (show 5 ≠ 11 by decide), Dag.turn_other vals (i := 5) (j := 8) _ (by decide), Dag.turn_other vals (i := 5) (j := 9) _ (by decide)]
                        exact hS
                    | 6, _ =>
                      injection ho with ho
                      subst ho
                      have e166 : b.eval (.tmp 166) = .pointer (some ⟨B, 0, none⟩) := (hat.new 5 _ 166 (haft ⟨5, .data⟩ (by simp) rfl) rfl rfl).trans (hP 5 _ (by rw [HPV.out]; rfl) (haft ⟨5, .data⟩ (by simp) rfl))
                      have q11 : Lf.getD 11 false = false := by
                        cases h : Lf.getD 11 false with
                        | false => rfl
                        | true => have := hat.closed 11 _ h rfl ⟨6, .phase⟩ (by simp) rfl; rw [Dag.off hL] at this; cases this
                      have hg := hS.g q11
                      obtain ⟨c0, o0, z0, b0, b1, hlk⟩ := HCx.out wx hg
                      refine Dag.yields (w' := wx) (.pointer (some ⟨B, 0, none⟩)) ?_ ⟨.pointer (some ⟨B, 0, none⟩), rfl, hkeep 6 _ (Or.inl (by rw [HPV.out]; rfl)) hL, ?_⟩
                      · clear hP hS hat haft hkeep hL hg q11
                        generalize b.eval = ρ at *
                        go_simp
                      · simp only [getD_set_ne false (show 6 ≠ 8 by decide), getD_set_ne false (show 6 ≠ 9 by decide), getD_set_ne false (show 6 ≠ 11 by decide), Dag.turn_other vals (i := 6) (j := 8) _ (by decide), Dag.turn_other vals (i := 6) (j := 9) _ (by decide)]
                        exact hS
                    | 7, _ =>
                      injection ho with ho
                      subst ho
                      have e167 : b.eval (.tmp 167) = .pointer (some ⟨B, 0, none⟩) := (hat.new 6 _ 167 (haft ⟨6, .data⟩ (by simp) rfl) rfl rfl).trans (hP 6 _ (by rw [HPV.out]; rfl) (haft ⟨6, .data⟩ (by simp) rfl))
                      have q11 : Lf.getD 11 false = false := by
                        cases h : Lf.getD 11 false with
                        | false => rfl
                        | true => have := hat.closed 11 _ h rfl ⟨7, .phase⟩ (by simp) rfl; rw [Dag.off hL] at this; cases this
                      have hg := hS.g q11
                      obtain ⟨c0, o0, z0, b0, b1, hlk⟩ := HCx.out wx hg
                      refine Dag.yields (w' := wx) (.agg #[.int .i64 (x : Int), .slice ra rl rc]) ?_ ⟨.agg #[.int .i64 (x : Int), .slice ra rl rc], rfl, hkeep 7 _ (Or.inl (by rw [HPV.out]; rfl)) hL, ?_⟩
                      · clear hP hS hat haft hkeep hL hg q11
                        generalize b.eval = ρ at *
                        go_simp
                      · simp only [getD_set_ne false (show 7 ≠ 8 by decide), getD_set_ne false (show 7 ≠ 9 by decide), getD_set_ne false (show 7 ≠ 11 by decide), Dag.turn_other vals (i := 7) (j := 8) _ (by decide), Dag.turn_other vals (i := 7) (j := 9) _ (by decide)]
                        exact hS
                    | 8, _ =>
                      injection ho with ho
                      subst ho
                      have e168 : b.eval (.tmp 168) = .agg #[.int .i64 (x : Int), .slice ra rl rc] := (hat.new 7 _ 168 (haft ⟨7, .data⟩ (by simp) rfl) rfl rfl).trans (hP 7 _ (by rw [HPV.out]; rfl) (haft ⟨7, .data⟩ (by simp) rfl))
                      have q11 : Lf.getD 11 false = false := by
                        cases h : Lf.getD 11 false with
                        | false => rfl
                        | true => have := hat.closed 11 _ h rfl ⟨8, .phase⟩ (by simp) rfl; rw [Dag.off hL] at this; cases this
                      have hg := hS.g q11
                      obtain ⟨c0, o0, z0, b0, b1, hlk⟩ := HCx.out wx hg
                      have q9 : Lf.getD 9 false = false := by
                        cases h : Lf.getD 9 false with
                        | false => rfl
                        | true => have := hat.closed 9 _ h rfl ⟨8, .data⟩ (by simp) rfl; rw [Dag.off hL] at this; cases this
                      rw [q9, q11, Dag.off hL] at hS
                      refine Dag.yields (w' := wx.alloc (.cells #[.int .i64 (x : Int), .slice ra rl rc] 30)) (.slice (some ⟨wx.heap.size, 0, none⟩) 1 1) ?_ ⟨_, rfl, hkeep 8 _ (Or.inr (by rw [HPV.out]; rfl)) hL, ?_⟩
                      · clear hP hS hat haft hkeep hL hg
                        generalize b.eval = ρ at *
                        go_simp
                      rw [Dag.on hL]
                      simp only [getD_set_ne false (show 8 ≠ 9 by decide), getD_set_ne false (show 8 ≠ 11 by decide), Dag.turn_same, Dag.turn_other vals (i := 8) (j := 9) _ (by decide)]
                      rw [q9, q11]
                      exact hS.lay
                    | 9, _ =>
                      injection ho with ho
                      subst ho
                      have e162 : b.eval (.tmp 162) = .slice ta tl tc := (hat.new 1 _ 162 (haft ⟨1, .data⟩ (by simp) rfl) rfl rfl).trans (hP 1 _ (by rw [HPV.out]; rfl) (haft ⟨1, .data⟩ (by simp) rfl))
                      have e169 : b.eval (.tmp 169) = vals 8 := hat.new 8 _ 169 (haft ⟨8, .data⟩ (by simp) rfl) rfl rfl
                      have l8 : Lf.getD 8 false = true := haft ⟨8, .data⟩ (by simp) rfl
                      have q11 : Lf.getD 11 false = false := by
                        cases h : Lf.getD 11 false with
                        | false => rfl
                        | true => have := hat.closed 11 _ h rfl ⟨9, .phase⟩ (by simp) rfl; rw [Dag.off hL] at this; cases this
                      have hg := hS.g q11
                      obtain ⟨c0, o0, z0, b0, b1, hlk⟩ := HCx.out wx hg
                      rw [l8, q11, Dag.off hL] at hS
                      have hbl := hS.a rfl rfl
                      have hown := ownsRow_below (HOwn.out) hbl
                      have hvb := hS.b rfl
                      have hkb := hS.k rfl rfl rfl
                      have hsz := hbl.size
                      refine wp_append_lies wx _ _ 22 rfl (w.heap.size) 30 i0 _ 2 32 Try.underlying22 hi0 hz0 hz1 hz2 rfl (by decide) (.slice ta tl tc) (tl) (OfM.talesV vr z.done) e162 hown ⟨_, 0, none⟩ 1 1 [.int .i64 (x : Int), .slice ra rl rc] (e169.trans hvb) rfl (World.news_of_block (cs := #[.int .i64 (x : Int), .slice ra rl rc]) (t := 30) (fr := (0, 0)) hkb) (by simp [Value.oneCell']) (by omega) (by unfold maxLen; omega) (by omega) (by have := hsz; omega) _ rfl ?_
                      intro g gc w'' hown2 hgrow hatg hltg
                      refine ⟨_, rfl, hkeep 9 _ (Or.inr (by rw [HPV.out]; rfl)) hL, ?_⟩
                      rw [Dag.on hL]
                      simp only [getD_set_ne false (show 9 ≠ 8 by decide), getD_set_ne false (show 9 ≠ 11 by decide), Dag.turn_same, Dag.turn_other vals (i := 9) (j := 8) _ (by decide)]
                      rw [l8, q11]
                      exact hS.app hown2 hgrow hatg
                    | 10, _ =>
                      injection ho with ho
                      subst ho
                      have q11 : Lf.getD 11 false = false := by
                        cases h : Lf.getD 11 false with
                        | false => rfl
                        | true =>
                          have h10 := hat.closed 11 _ h rfl ⟨10, .data⟩ (by simp) rfl
                          rw [Dag.off hL] at h10; cases h10
                      have hg := hS.g q11
                      obtain ⟨c0, o0, z0, b0, b1, hlk⟩ := HCx.out wx hg
                      refine Dag.yields (w' := wx) (.pointer (some ⟨O, 0, none⟩)) ?_ ⟨.pointer (some ⟨O, 0, none⟩), rfl, hkeep 10 _ (Or.inl (by rw [HPV.out]; rfl)) hL, ?_⟩
                      · clear hP hS hat haft hkeep hL hg q11
                        generalize b.eval = ρ at *
                        go_simp
                      · simp only [getD_set_ne false (show 10 ≠ 8 by decide), getD_set_ne false (show 10 ≠ 9 by decide), getD_set_ne false (show 10 ≠ 11 by decide), Dag.turn_other vals (i := 10) (j := 8) _ (by decide), Dag.turn_other vals (i := 10) (j := 9) _ (by decide)]
                        exact hS
                    | 11, _ =>
                      injection ho with ho
                      subst ho
                      have e171 : b.eval (.tmp 171) = .pointer (some ⟨O, 0, none⟩) := (hat.new 10 _ 171 (haft ⟨10, .data⟩ (by simp) rfl) rfl rfl).trans (hP 10 _ (by rw [HPV.out]; rfl) (haft ⟨10, .data⟩ (by simp) rfl))
                      have e170 : b.eval (.tmp 170) = vals 9 := hat.new 9 _ 170 (haft ⟨9, .data⟩ (by simp) rfl) rfl rfl
                      have l9 : Lf.getD 9 false = true := haft ⟨9, .data⟩ (by simp) rfl
                      have lb : Lf.getD 8 false = true := hat.closed 9 _ l9 rfl ⟨8, .data⟩ (by simp) rfl
                      rw [lb, l9, Dag.off hL] at hS
                      have hg := hS.g rfl
                      obtain ⟨c0, o0, z0, b0, b1, hlk⟩ := HCx.out wx hg
                      obtain ⟨g, gc, hva, _⟩ := hS.c rfl rfl
                      have hput := hS.put
                      rw [hva] at hput
                      have ev := e170.trans hva
                      refine Dag.skips (w' := wx.setCell (⟨O, 0, none⟩) (.slice (some ⟨g, 0, none⟩) (tl + 1) gc)) ?_ ⟨_, rfl, hkeep 11 _ (Or.inr (by rw [HPV.out]; rfl)) hL, ?_⟩
                      · clear hP hS hat haft hkeep hL hg hput e170 hva
                        generalize b.eval = ρ at *
                        go_simp
                      rw [Dag.on hL]
                      simp only [getD_set_ne false (show 11 ≠ 8 by decide), getD_set_ne false (show 11 ≠ 9 by decide), Dag.turn_other vals (i := 11) (j := 8) _ (by decide), Dag.turn_other vals (i := 11) (j := 9) _ (by decide)]
                      rw [lb, l9, hva]
                      exact hput
                    | i + 12, h => exact absurd h (by simp)
                  · intro Lf vals wx hall hR
                    obtain ⟨hP, hS⟩ := hR
                    rw [hall 8 (by simp), hall 9 (by simp), hall 11 (by simp)] at hS
                    obtain ⟨w1, hwx, g, gc, hva, hown, hatg, hgrow⟩ := hS.d rfl
                    have hvb := hS.b rfl
                    have u0 := hP 0 _ (by rw [HPV.out]; rfl) (hall 0 (by simp))
                    have u1 := hP 1 _ (by rw [HPV.out]; rfl) (hall 1 (by simp))
                    have u2 := hP 2 _ (by rw [HPV.out]; rfl) (hall 2 (by simp))
                    have u3 := hP 3 _ (by rw [HPV.out]; rfl) (hall 3 (by simp))
                    have u4 := hP 4 _ (by rw [HPV.out]; rfl) (hall 4 (by simp))
                    have u5 := hP 5 _ (by rw [HPV.out]; rfl) (hall 5 (by simp))
                    have u6 := hP 6 _ (by rw [HPV.out]; rfl) (hall 6 (by simp))
                    have u7 := hP 7 _ (by rw [HPV.out]; rfl) (hall 7 (by simp))
                    have u10 := hP 10 _ (by rw [HPV.out]; rfl) (hall 10 (by simp))
                    simp only [Dag.all, List.size_toArray, List.length_cons, List.length_nil, Nat.reduceAdd, Act.put, List.getElem?_toArray, List.getElem?_cons_zero, List.getElem?_cons_succ, Option.bind_some, List.setIfInBounds_toArray, List.set_cons_zero, List.set_cons_succ]
                    rw [u0, u1, u2, u3, u4, u5, u6, u7, u10, hvb, hva]
                    rw [hva] at hown hwx
                    exact ⟨g, gc, rfl, _, w1, hwx, g, gc, rfl, hown, hatg, hgrow⟩
                intro gg gcap wz hcut
                obtain ⟨va, w1, rfl, hgot⟩ := hcut
                have HNx : Box (OfM.Go w l ds M N O V R (k + 1) (w1.setCell ⟨O, 0, none⟩ va)) := ⟨⟨bt, v2, vr, va, by
                  have h1 := HOW5.out.putTale (x := x) Hxz.out (by rw [HTv.out, HTL.out, HRv.out, HRL2.out]; exact hgot)
                  rw [HGn.out]
                  have h2 : ({ z with done := z.done ++ [(x : Int)] } : OfSt) = { s with rows := OfM.put (x : Int) s.rows (s.rows x), done := s.done ++ [(x : Int)] } := by rw [← HZe.out]
                  rw [h2] at h1
                  exact h1, by rw [HGn.out]; exact HNl.out⟩⟩
                clear hgot
                go_wp2_with fail
                go_roundw
                case rel => exact ⟨k + 1, by omega, by go_num, HNx⟩
                case measure => simp [RowKit.intOf]; omega
          · have HGn : Box (OfM.Go w l ds M N O V R (k + 1) W2) := ⟨⟨bt, v, vr, vt, by rw [HSp3.out, if_neg hk3]; exact HOW2.out, by rw [HSp3.out, if_neg hk3]; exact HNl.out⟩⟩
            cases f1 : (kind == 3) with
            | false =>
              clear hk3
              go_wp2_with fail
              go_roundw
              case rel => exact ⟨k + 1, by omega, by go_num, HGn⟩
              case measure => simp [RowKit.intOf]; omega
            | true =>
              obtain rfl : dok = false := by
                cases dok with
                | false => rfl
                | true => exact absurd ⟨by simpa using f1, rfl⟩ hk3
              clear hk3
              go_wp2_with fail
              go_roundw
              case rel => exact ⟨k + 1, by omega, by go_num, HGn⟩
              case measure => simp [RowKit.intOf]; omega
    · obtain rfl : k = n := by omega
      obtain ⟨bt, v, vr, vt, how, _⟩ := HK.out.at_
      have HBn := box (HBnd.out k (by have := HN.out; omega))
      have HRl : Box (OfM.run l ds l.length = OfM.run l ds k) := ⟨by rw [HN.out]⟩
      have HPo : Box (∀ e w', Below w.heap.size w w' → (∃ s : StoL, OfM.Tells (OfM.run l ds k) s ∧ ((s.Ok ∧ StoAt w' s ∧ e = .returned (.tuple #[.agg #[.slice s.ta s.tls.length s.tc, .slice s.ra s.vrs.length s.rc], .int .i64 0])) ∨
        (¬ s.Ok ∧ e = .returned (.tuple #[.agg #[.slice none 0 0, .slice none 0 0], .int .i64 4])))) → OfM.Post l ds w e w') := ⟨fun e w' h1 h2 => ⟨h1, by rw [HRl.out]; exact h2⟩⟩
      obtain ⟨st, HSt⟩ : ∃ st, Box (OfM.run l ds k = st) := ⟨_, ⟨rfl⟩⟩
      rw [HSt.out] at how HBn HPo
      have HBn2 : Box (OfM.Bnd st 200) := ⟨⟨fun x => Nat.le_trans (HBn.out.rd x) hl200, fun x hx => Nat.le_trans (HBn.out.wr x hx) hl200, HBn.out.it, fun r hr => Nat.le_trans (HBn.out.v r hr) (Nat.mul_le_mul_right 200 hl200), Nat.le_trans HBn.out.d hl200⟩⟩
      obtain ⟨ta, tc, htv⟩ := own_shape how.tl
      have HOW := box how; have HTv := box htv
      obtain ⟨tl, HTL⟩ : ∃ tl, Box (st.done.length = tl) := ⟨_, ⟨rfl⟩⟩
      have htl : tl ≤ 200 := by have := HBn.out.d; have := HTL.out; omega
      have hSl : ∀ y : Nat, ∃ p : Option Addr × Nat × Nat, y < 12 → vr y = .slice p.1 p.2.1 p.2.2 := fun y => by
        by_cases hy : y < 12
        · obtain ⟨a, c, e⟩ := own_shape (how.fr.own y hy)
          exact ⟨(a, _, c), fun _ => e⟩
        · exact ⟨(none, 0, 0), fun h => absurd h hy⟩
      obtain ⟨P, hP⟩ := Classical.axiomOfChoice hSl
      have hdm : ∀ t ∈ st.done, 0 ≤ t ∧ t < 12 := fun t ht => how.keys.2 t (how.dn t ht)
      have HSo := box (taleSort_any st.done (fun y => .slice (P y).1 (P y).2.1 (P y).2.2) (fun y => (P y).1) (fun y => (P y).2.1) (fun y => (P y).2.2) (fun y => rfl) (.slice ta tl tc) w.heap.size wr (by
        have h1 := how.tl
        rw [htv, HTL.out] at h1
        rw [HTL.out, OfM.talesV_congr (vr := vr) (fun t ht => (hP t.toNat (by have := hdm t ht; omega)).symm)]
        exact h1) (by rw [HTL.out]; omega))
      have HCo : Box (OfM.talesV (fun y => .slice (P y).1 (P y).2.1 (P y).2.2) (sortI st.done) = OfM.talesV vr (sortI st.done)) := ⟨OfM.talesV_congr (fun t ht => (hP t.toNat (by have := hdm t ((sortI_perm _).mem_iff.1 ht); omega)).symm)⟩
      rw [HCo.out, HTL.out] at HSo
      have o0 := how.ob.cell (i := 0) rfl
      rw [htv, HTL.out] at o0
      clear how htv hSl hP hdm HK
      go_wp2_with fail
      refine HSo.out.mono ?_
      rintro e w2 ⟨rfl, hown, hgr⟩
      have HGr := box hgr; have HOwn := box hown
      obtain ⟨s, hs1, ⟨hs3, hs4, hs5, hs6⟩, hs7⟩ := OfM.story HOW.out HBn2.out (ta := ta) (tc := tc) (by rw [HTv.out, HTL.out])
      have HLe := box (HOW.out.left (w' := w2) (by rw [HTv.out, HTL.out]; exact hgr) (by rw [HTv.out, HTL.out]; exact hown))
      have hs2 := hs7 w2 HLe.out
      have HT1 := box hs1; have HA := box hs7
      have HSh : Box (s.tls.length = tl ∧ s.vrs.length = 20) := ⟨by rw [hs1.len, HTL.out], hs1.vl⟩
      have hno : wr.ownsRow w.heap.size 30 2 (.slice ta tl tc) tl (OfM.talesV vr st.done) := by
        have h1 := HOW.out.tl
        rw [HTv.out, HTL.out] at h1
        exact h1
      have hob : Blk w2 O 25 [.slice ta tl tc, .slice (some ⟨V, 0, none⟩) 20 20] := by
        have h1 := HOW.out.ob.grown hgr (HOW.out.ob.ne_own hno (by decide))
        rw [HTv.out, HTL.out] at h1
        exact h1
      have HOb := box hob
      have HRb : Box (Blk w2 R 25 [.slice none 0 0, .slice none 0 0]) := ⟨HOW.out.rb.grown hgr (HOW.out.rb.ne_own hno (by decide))⟩
      have HB2 : Box (Below w.heap.size w w2) := ⟨HOW.out.below.grown hgr HOW.out.below.size (fun b hb => (hno.lt b hb).1)⟩
      have HCk := box (orderCheck_any s w2 hs2)
      rw [HSh.out.1, HSh.out.2, hs3, hs4, hs5, hs6] at HCk
      have HSf : Box (s.ta = ta ∧ s.tc = tc ∧ s.ra = some ⟨V, 0, none⟩ ∧ s.rc = 20) := ⟨hs3, hs4, hs5, hs6⟩
      have p0 := hob.cell (i := 0) rfl
      have p1 := hob.cell (i := 1) rfl
      clear hown hgr hs1 hs2 hs3 hs4 hs5 hs6 hs7 hno hob o0 HSo
      go_wp2_with fail
      refine HCk.out.mono ?_
      rintro e w3 ⟨hb3, c, rfl, hc, hc11⟩
      have HB3 := box (below_tr HB2.out hb3)
      have HO3 := box (HOb.out.after hb3); have HR3 := box (HRb.out.after hb3); have HL3 := box (HLe.out.after hb3)
      have HC := box hc
      have r0 := HR3.out.cell (i := 0) rfl
      have r1 := HR3.out.cell (i := 1) rfl
      have z0 := HR3.out.frozen 0
      have z1 := HR3.out.frozen 1
      have o0 := HO3.out.cell (i := 0) rfl
      have o1 := HO3.out.cell (i := 1) rfl
      clear hb3 hc hc11 p0 p1 HCk
      by_cases hc0 : c = 0
      · subst hc0
        go_wp2_with fail
        have HF2 := ((HR3.out.set 0 (.slice ta tl tc)).set 1 (.slice (some ⟨V, 0, none⟩) 20 20))
        have g0 := HF2.cell (i := 0) rfl
        have g1 := HF2.cell (i := 1) rfl
        have hlt := HR3.out.lt
        have HBe : Below w.heap.size w ((w3.setCell ⟨R, 0, none⟩ (.slice ta tl tc)).setCell ⟨R, 1, none⟩ (.slice (some ⟨V, 0, none⟩) 20 20)) := (HB3.out.setCell (by rw [HRe.out]; exact Nat.le_refl _) _).setCell (by rw [HRe.out]; exact Nat.le_refl _) _
        refine bodyPost_ret (v := .tuple #[.agg #[.slice ta tl tc, .slice (some ⟨V, 0, none⟩) 20 20], .int .i64 0]) (by simp [results, Try.results24, go_sem, g0, g1]) rfl (HPo.out _ _ HBe ⟨s, HT1.out, Or.inl ⟨by have h9 := HC.out; simpa using h9, ?_, by rw [HSh.out.1, HSh.out.2, HSf.out.1, HSf.out.2.1, HSf.out.2.2.1, HSf.out.2.2.2]⟩⟩)
        exact HA.out _ ((HL3.out.set HR3.out 0 _).set (HR3.out.set 0 _) 1 _)
      · have q1 : (c == 0) = false := by simpa using hc0
        have q2 : (c != 0) = true := by simpa using hc0
        have HNo : Box (¬ s.Ok) := ⟨fun h => hc0 (HC.out.2 h)⟩
        clear hc0
        go_wp2_with fail
        have HF2 := ((HR3.out.set 0 (.slice none 0 0)).set 1 (.slice none 0 0))
        have g0 := HF2.cell (i := 0) rfl
        have g1 := HF2.cell (i := 1) rfl
        have HBe : Below w.heap.size w ((w3.setCell ⟨R, 0, none⟩ (.slice none 0 0)).setCell ⟨R, 1, none⟩ (.slice none 0 0)) := (HB3.out.setCell (by rw [HRe.out]; exact Nat.le_refl _) _).setCell (by rw [HRe.out]; exact Nat.le_refl _) _
        exact bodyPost_ret (v := .tuple #[.agg #[.slice none 0 0, .slice none 0 0], .int .i64 4]) (by simp [results, Try.results24, go_sem, g0, g1]) rfl (HPo.out _ _ HBe ⟨s, HT1.out, Or.inr ⟨HNo.out, rfl⟩⟩)
end Go.Proofs.Ytgkclgmekbgjmaa
