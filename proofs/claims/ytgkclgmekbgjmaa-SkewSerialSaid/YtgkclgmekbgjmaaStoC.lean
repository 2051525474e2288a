/- order.Check: what it answers. -/
import Derived.Test.YtgkclgmekbgjmaaStoF
import Derived.Test.YtgkclgmekbgjmaaIntIdx
import Derived.BigQuiet
import Derived.Deep.RegionHeld3
import Derived.Deep.RegionWith
namespace Go.Proofs.Ytgkclgmekbgjmaa
open Go.RowKit Go.Lib

structure StoL.CkW (w : World) (s : StoL) (wx : World) : Prop where
  below : Below w.heap.size w wx
  blk : Blk wx w.heap.size 25 s.cells
theorem StoL.CkW.after {w wx wy : World} {s : StoL} (h : StoL.CkW w s wx) (hb : Below wx.heap.size wx wy) : StoL.CkW w s wy := ⟨below_tr h.below hb, h.blk.after hb⟩
theorem StoL.CkW.alloc {w wx : World} {s : StoL} (h : StoL.CkW w s wx) (o : Obj) : StoL.CkW w s (wx.alloc o) := h.after ((Below.refl _ _).alloc (Nat.le_refl _) o)

theorem IntsAt.take {w : World} {ao : Option Addr} {l : List Int} (h : IntsAt w ao l) (q : Nat) : IntsAt w ao (l.take q) := by
  rcases h with h | ⟨b, off, h1, h2, h3⟩
  · left; rw [h]; simp
  · refine Or.inr ⟨b, off, h1, h2, fun k hk => ?_⟩
    have hk2 : k < l.length := by rw [List.length_take] at hk; omega
    rw [h3 k hk2]; simp

set_option maxRecDepth 20000 in
set_option maxHeartbeats 16000000 in
theorem orderCheck_any (s : StoL) (w : World) (h : StoAt w s) :
    Calls Try.prog 66 #[.agg #[.slice s.ta s.tls.length s.tc, .slice s.ra s.vrs.length s.rc]] w (s.CkPost w) := by
  have H := box h
  clear h
  obtain ⟨S, HS⟩ : ∃ S, Box (S = s) := ⟨_, ⟨rfl⟩⟩
  have HOk : Box (s.Ok ↔ (s.tls.length ≤ 12 ∧ s.vrs.length ≤ 20 ∧ (∀ i, i < s.tls.length → S.TaleOk i) ∧ ∀ k, k < s.vrs.length → S.RowOk (s.vrs[k]!))) := ⟨by rw [HS.out]; exact Iff.rfl⟩
  have HPost : Box (∀ (e : Ending) (w' : World) (c : Int), Below w.heap.size w w' → e = .returned (.int .i64 c) → (c = 0 ↔ s.Ok) → c ≠ 11 → s.CkPost w e w') := ⟨fun e w' c h1 h2 h3 h4 => ⟨h1, c, h2, h3, h4⟩⟩
  have HCk : Box (∀ wx, StoL.CkW w s wx ↔ (Below w.heap.size w wx ∧ Blk wx w.heap.size 25 [.slice s.ta s.tls.length s.tc, .slice s.ra s.vrs.length s.rc])) := ⟨fun wx => ⟨fun h => ⟨h.below, h.blk⟩, fun h => ⟨h.1, h.2⟩⟩⟩
  obtain ⟨Post, HP⟩ : ∃ P, Box (s.CkPost w = P) := ⟨_, ⟨rfl⟩⟩
  obtain ⟨CW, HCW⟩ : ∃ P, Box (StoL.CkW w s = P) := ⟨_, ⟨rfl⟩⟩
  have HAf : Box (∀ wx wy, CW wx → Below wx.heap.size wx wy → CW wy) := ⟨by rw [← HCW.out]; exact fun wx wy h hb => h.after hb⟩
  obtain ⟨OK, HOK⟩ : ∃ P, Box (s.Ok = P) := ⟨_, ⟨rfl⟩⟩
  rw [HP.out] at HPost ⊢
  rw [HCW.out] at HCk
  rw [HOK.out] at HPost HOk
  have HSt : Box (∀ wx, Below w.heap.size w wx → TalesAt wx s.ta s.tls ∧ (∀ t ∈ s.tls, EgsAt wx t.ga t.gs) ∧ (s.vrs = [] ∨ ∃ b off, s.ra = some ⟨b, off, none⟩ ∧ b < wx.heap.size ∧ ∀ k (h : k < s.vrs.length), wx.cell? ⟨b, off + k, none⟩ = some (.slice s.vrs[k].va s.vrs[k].vs.length s.vrs[k].vc)) ∧ ∀ v ∈ s.vrs, IntsAt wx v.va v.vs) := ⟨fun wx hb =>
    have h := H.out.below hb (Nat.le_refl _)
    ⟨h.tl, h.gs, h.vr, h.vs⟩⟩
  have HLim : Box ((∀ v ∈ s.vrs, v.vs.length ≤ v.vc ∧ v.vc ≤ 9223372036854775807 ∧ v.vs.length ≤ 9000000000000000) ∧ (∀ t ∈ s.tls, t.gs.length ≤ 9000000000000000) ∧ s.tls.length ≤ 9000000000000000 ∧ s.vrs.length ≤ 9000000000000000) := ⟨H.out.vc, H.out.gl, H.out.tn⟩
  have HTale : Box (∀ i, S.TaleOk i ↔ (0 ≤ (s.tls[i]!).tx ∧ (s.tls[i]!).tx < 12 ∧ (0 < i → (s.tls[i - 1]!).tx < (s.tls[i]!).tx) ∧ ∀ g ∈ (s.tls[i]!).gs, S.GotOk (s.tls[i]!).tx g)) := ⟨by rw [HS.out]; exact fun i => Iff.rfl⟩
  have HGot : Box (∀ tx g, S.GotOk tx g ↔ (0 ≤ g.frm ∧ g.frm < s.vrs.length ∧ g.to_ ≠ tx ∧ (g.to_ = -1 ∨ g.to_ ∈ (s.vrs[g.frm.toNat]!).vs))) := ⟨by rw [HS.out]; exact fun tx g => Iff.rfl⟩
  have HRow : Box (∀ v, S.RowOk v ↔ ∀ i, i < v.vs.length → (¬ v.vs[i]! ∈ v.vs.take i ∧ ∃ t ∈ s.tls, t.tx = v.vs[i]!)) := ⟨by rw [HS.out]; exact fun v => Iff.rfl⟩
  clear HP HOK HCW HS H
  obtain ⟨tls, ta, tc, vrs, ra, rc⟩ := s
  simp only at HOk HCk HSt HLim HTale HGot HRow ⊢
  obtain ⟨n, HN⟩ : ∃ n, Box (tls.length = n) := ⟨_, ⟨rfl⟩⟩
  obtain ⟨m, HM⟩ : ∃ m, Box (vrs.length = m) := ⟨_, ⟨rfl⟩⟩
  rw [HN.out, HM.out] at HOk HCk HLim ⊢
  rw [HM.out] at HGot
  have hn9 := HLim.out.2.2.1
  have hm9 := HLim.out.2.2.2
  go_enter Try.func66, Try.ntmps66
  go_upto_region 1 with (fail)
  refine name_world (fun W => CW W) ((HCk.out _).2 ⟨(Below.refl _ _).alloc (Nat.le_refl _) _, Blk.new _ _ _⟩) ?_
  intro W0 hW0
  have HW := box hW0
  have hk := ((HCk.out _).1 hW0).2
  have p0 := hk.cell (i := 0) rfl
  have p1 := hk.cell (i := 1) rfl
  clear hW0 hk
  by_cases hbig : 12 < n
  · have hbi : (12 : Int) < (n : Int) := by omega
    go_wp2_with fail
    exact HPost.out _ _ 2 ((HCk.out _).1 HW.out).1 rfl ⟨fun h => by simp at h, fun h => absurd (HOk.out.1 h).1 (by omega)⟩ (by decide)
  have hbi : ¬ (12 : Int) < (n : Int) := by omega
  by_cases hbig2 : 20 < m
  · have hbi2 : (20 : Int) < (m : Int) := by omega
    go_wp2_with fail
    exact HPost.out _ _ 2 ((HCk.out _).1 HW.out).1 rfl ⟨fun h => by simp at h, fun h => absurd (HOk.out.1 h).2.1 (by omega)⟩ (by decide)
  have hbi2 : ¬ (20 : Int) < (m : Int) := by omega
  go_wp2_with fail
  go_loopw [24] (fun t24 wr => ∃ i : Nat, i ≤ n ∧ t24 = .int .i64 (i : Int) ∧ Box (CW wr) ∧ Box (∀ j, j < i → S.TaleOk j)) (fun t24 _ => n - (RowKit.intOf t24).toNat)
  case atStart => exact ⟨0, Nat.zero_le _, rfl, HW, ⟨fun j hj => by omega⟩⟩
  case round =>
    obtain ⟨i, hi, rfl, HC, HT⟩ := hrel
    clear HW p0 p1
    by_cases hlt : i < n
    · have hil : i < tls.length := by rw [HN.out]; exact hlt
      have hst := HSt.out wr ((HCk.out _).1 HC.out).1
      obtain ⟨b, off, rfl, _, hrow⟩ := hst.1.resolve_left (by intro h; rw [h] at hil; simp at hil)
      obtain ⟨c0, c1⟩ := hrow i hil
      have hpv : 0 < i → wr.cell? ⟨b, off + (i - 1) * 2, none⟩ = some (.int .i64 (tls[i - 1]!).tx) := fun h => by
        rw [getElem!_pos tls (i - 1) (by omega)]; exact (hrow (i - 1) (by omega)).1
      have hgl := HLim.out.2.1 _ (List.getElem_mem hil)
      have HGs : Box (∀ wx, Below w.heap.size w wx → EgsAt wx tls[i].ga tls[i].gs) := ⟨fun wx hb => (HSt.out wx hb).2.1 _ (List.getElem_mem hil)⟩
      have Hx : Box (tls[i]! = tls[i]) := ⟨getElem!_pos tls i hil⟩
      generalize tls[i] = T at *
      obtain ⟨tx, ga, gc, gs⟩ := T
      simp only at c0 c1 hgl HGs
      have HTi := box (HTale.out i)
      rw [Hx.out] at HTi
      simp only at HTi
      clear hrow hst Hx
      have hpw := (((Below.refl _ wr).alloc (Nat.le_refl _) (.cells #[.int .i64 tx, .slice ga gs.length gc] 30)).cell (p := ⟨b, off + (i - 1) * 2, none⟩))
      go_upto_region 6 with (fail)
      refine name_world (fun W => CW W ∧ Blk W wr.heap.size 30 [.int .i64 tx, .slice ga gs.length gc] ∧ (0 < i → W.cell? ⟨b, off + (i - 1) * 2, none⟩ = some (.int .i64 (tls[i - 1]!).tx))) ⟨HAf.out _ _ HC.out ((Below.refl _ _).alloc (Nat.le_refl _) _), Blk.new _ _ _, fun h => by
        have hb : b < wr.heap.size := by assumption
        exact (((Below.refl _ wr).alloc (Nat.le_refl _) _).cell (p := ⟨b, off + (i - 1) * 2, none⟩) hb).trans (hpv h)⟩ ?_
      rintro W1 ⟨hc1, hk1, hp1⟩
      have HC1 := box hc1; have HK1 := box hk1
      have t0 := hk1.cell (i := 0) rfl
      have t1 := hk1.cell (i := 1) rfl
      have s0 := ((HCk.out _).1 hc1).2.cell (i := 0) rfl
      have s1 := ((HCk.out _).1 hc1).2.cell (i := 1) rfl
      have HNo : Box (∀ (c : Int) (wx : World), Below w.heap.size w wx → c ≠ 0 → c ≠ 11 → ¬ S.TaleOk i → Post (.returned (.int .i64 c)) wx) := ⟨fun c wx hb h0 h11 hno => HPost.out _ _ c hb rfl ⟨fun h => absurd h h0, fun h => absurd ((HOk.out.1 h).2.2.1 i hlt) hno⟩ h11⟩
      clear hc1 hk1 c0 c1 hpv HC
      generalize wr.heap.size = A at *
      by_cases hx0 : tx < 0
      · go_wp2_with fail
        exact HNo.out 1 _ ((HCk.out _).1 HC1.out).1 (by decide) (by decide) (fun h => absurd (HTi.out.1 h).1 (by omega))
      by_cases hx1 : 12 ≤ tx
      · go_wp2_with fail
        exact HNo.out 1 _ ((HCk.out _).1 HC1.out).1 (by decide) (by decide) (fun h => absurd (HTi.out.1 h).2.1 (by omega))
      have hx12 : ¬ (12 : Int) ≤ tx := hx1
      have HTw : Box ((0 < i → (tls[i - 1]!).tx < tx) → (∀ g ∈ gs, S.GotOk tx g) → S.TaleOk i) := ⟨fun h1 h2 => HTi.out.2 ⟨by omega, by omega, h1, h2⟩⟩
      obtain ⟨P, HPv⟩ : ∃ P, Box ((tls[i - 1]!).tx = P) := ⟨_, ⟨rfl⟩⟩
      rw [HPv.out] at hp1 HTw HTi
      go_upto_region 8 with (fail)
      go_cut [50] (fun s50 wx => ∃ q : Bool, s50 = .bool q ∧ (q = true → ¬ S.TaleOk i) ∧ (q = false → 0 < i → P < tx) ∧ ∃ nq, wx = W1.drewN nq)
      case first =>
        by_cases h0 : 0 < i
        · have p2 := hp1 h0
          have h0i : (0 : Int) < (i : Int) := by omega
          have hi1 : (i - 1 : Nat) < n := by omega
          have hwr : IntKind.i64.wrap ((i : Int) - 1) = ((i - 1 : Nat) : Int) := by
            rw [IntWalk.i64_in _ (by omega)]; omega
          have htn : ((i : Int) - 1).toNat = i - 1 := by omega
          have hge : (0 : Int) ≤ (i : Int) - 1 := by omega
          have hltn : (i : Int) - 1 < (n : Int) := by omega
          by_cases hle : tx ≤ P
          · go_wp2_with fail
            go_quiet (fail)
            go_wp2_with fail
            go_meet
            exact ⟨true, rfl, fun _ h => absurd ((HTi.out.1 h).2.2.1 h0) (by omega), fun h => by simp at h, _, rfl⟩
          · go_wp2_with fail
            go_quiet (fail)
            go_wp2_with fail
            go_meet
            exact ⟨false, by rw [decide_eq_false (by omega)], fun h => by simp at h, fun _ _ => by omega, _, rfl⟩
        · have h0i : ¬ (0 : Int) < (i : Int) := by omega
          go_wp2_with fail
          go_quiet (fail)
          go_wp2_with fail
          go_meet
          exact ⟨false, rfl, fun h => by simp at h, fun _ h => absurd h h0, _, rfl⟩
      case rest =>
      obtain ⟨q, rfl, hq1, hq2, nq, rfl⟩ := hcut
      have HQ1 := box hq1; have HQ2 := box hq2
      have hB2 : Below W1.heap.size W1 (W1.drewN nq) := ⟨rfl, rfl, rfl, Nat.le_refl _, fun _ _ => rfl⟩
      have HC2 := box (HAf.out _ _ HC1.out hB2)
      have HK2 := box (HK1.out.after hB2)
      clear hq1 hq2 hB2 hp1 t0 t1 s0 s1 HC1 HK1
      generalize W1.drewN nq = W2 at *
      have t0 := HK2.out.cell (i := 0) rfl
      have t1 := HK2.out.cell (i := 1) rfl
      cases q with
      | true =>
        go_wp2_with fail
        exact HNo.out 4 _ ((HCk.out _).1 HC2.out).1 (by decide) (by decide) (HQ1.out (by simp))
      | false =>
      have HTw2 : Box ((∀ g ∈ gs, S.GotOk tx g) → S.TaleOk i) := ⟨fun h => HTw.out (HQ2.out (by simp)) h⟩
      clear HQ1 HQ2 HTw
      obtain ⟨gl, HGL⟩ : ∃ gl, Box (gs.length = gl) := ⟨_, ⟨rfl⟩⟩
      rw [HGL.out] at t1 hgl HK2
      go_wp2_with fail
      go_loopw [54] (fun t54 wx => ∃ q : Nat, q ≤ gl ∧ t54 = .int .i64 (q : Int) ∧ Box (CW wx ∧ Blk wx A 30 [.int .i64 tx, .slice ga gl gc]) ∧ Box (∀ j, j < q → S.GotOk tx gs[j]!)) (fun t54 _ => gl - (RowKit.intOf t54).toNat)
      case atStart => exact ⟨0, Nat.zero_le _, rfl, ⟨HC2.out, HK2.out⟩, ⟨fun j hj => by omega⟩⟩
      case round =>
        obtain ⟨q, hq, rfl, HC3, HG⟩ := hrel
        clear HC2 HK2 t0 t1
        by_cases hqt : q < gl
        · have hql : q < gs.length := by rw [HGL.out]; exact hqt
          have hB3 := ((HCk.out _).1 HC3.out.1).1
          obtain ⟨gb, goff, rfl, _, hgrow⟩ := (HGs.out _ hB3).resolve_left (by intro h; rw [h] at hql; simp at hql)
          obtain ⟨g0, g1⟩ := hgrow q hql
          have Hg : Box (gs[q]! = gs[q]) := ⟨getElem!_pos gs q hql⟩
          have HMem : Box (gs[q] ∈ gs) := ⟨List.getElem_mem hql⟩
          generalize gs[q] = G at *
          obtain ⟨gi, gf⟩ := G
          simp only at g0 g1
          clear hgrow
          go_upto_region 13 with (fail)
          refine name_world (fun W => CW W ∧ Blk W A 30 [.int .i64 tx, .slice (some ⟨gb, goff, none⟩) gl gc] ∧ Blk W wr.heap.size 27 [.int .i64 gi, .int .i64 gf]) ⟨HAf.out _ _ HC3.out.1 ((Below.refl _ _).alloc (Nat.le_refl _) _), HC3.out.2.alloc _, Blk.new _ _ _⟩ ?_
          rintro W4 ⟨hc4, hk4, hg4⟩
          have HC4 := box hc4; have HK4 := box hk4
          have t0 := hk4.cell (i := 0) rfl
          have e0 := hg4.cell (i := 0) rfl
          have e1 := hg4.cell (i := 1) rfl
          have s1 := ((HCk.out _).1 hc4).2.cell (i := 1) rfl
          have hB4 := ((HCk.out _).1 hc4).1
          have HB4 := box hB4
          clear hc4 hk4 hg4 g0 g1 HC3 hB3 hB4
          generalize wr.heap.size = C at *
          have HGi := box (HGot.out tx ⟨gi, gf⟩)
          simp only at HGi
          go_cut [92] (fun s92 wx => ∃ u : Bool, s92 = .bool u ∧ (u = true → ¬ S.GotOk tx ⟨gi, gf⟩) ∧ (u = false → S.GotOk tx ⟨gi, gf⟩) ∧ ∃ nq, wx = W4.drewN nq)
          case first =>
            by_cases h0 : gi < 0
            · skip
              have hn1 : ¬ S.GotOk tx ⟨gi, gf⟩ := fun h => absurd (HGi.out.1 h).1 (by omega)
              have Hn1 := box hn1
              have hd1 : decide (gi < 0) = true := decide_eq_true h0
              clear hn1 h0 HGi HGs HTale HGot HRow HOk HTw2 HTi
              go_quiet (fail)
              go_wp2_with fail
              go_meet
              exact ⟨true, rfl, fun _ => Hn1.out, fun h => by simp at h, _, rfl⟩
            have hd1 : decide (gi < 0) = false := decide_eq_false h0
            by_cases h1 : (m : Int) ≤ gi
            · skip
              have hn1 : ¬ S.GotOk tx ⟨gi, gf⟩ := fun h => absurd (HGi.out.1 h).2.1 (by omega)
              have Hn1 := box hn1
              have hd2 : decide ((m : Int) ≤ gi) = true := decide_eq_true h1
              clear hn1 h0 h1 HGi HGs HTale HGot HRow HOk HTw2 HTi
              go_quiet (fail)
              go_wp2_with fail
              go_meet
              exact ⟨true, rfl, fun _ => Hn1.out, fun h => by simp at h, _, rfl⟩
            have hd2 : decide ((m : Int) ≤ gi) = false := decide_eq_false h1
            by_cases h2 : gf = tx
            · skip
              have hn1 : ¬ S.GotOk tx ⟨gi, gf⟩ := fun h => absurd h2 (HGi.out.1 h).2.2.1
              have Hn1 := box hn1
              have hd3 : (gf == tx) = true := by simpa using h2
              clear hn1 h0 h1 h2 HGi HGs HTale HGot HRow HOk HTw2 HTi
              go_quiet (fail)
              go_wp2_with fail
              go_meet
              exact ⟨true, rfl, fun _ => Hn1.out, fun h => by simp at h, _, rfl⟩
            have hd3 : (gf == tx) = false := by simpa using h2
            by_cases h3 : gf = -1
            · skip
              have hn1 : S.GotOk tx ⟨gi, gf⟩ := HGi.out.2 ⟨by omega, by omega, h2, Or.inl h3⟩
              have Hn1 := box hn1
              have hd4 : (gf != -1) = false := by simpa using h3
              clear hn1 h0 h1 h2 h3 HGi HGs HTale HGot HRow HOk HTw2 HTi
              go_quiet (fail)
              go_wp2_with fail
              go_meet
              exact ⟨false, rfl, fun h => by simp at h, fun _ => Hn1.out, _, rfl⟩
            have hd4 : (gf != -1) = true := by simpa using h3
            obtain ⟨v, hvv⟩ := Int.eq_ofNat_of_zero_le (show 0 ≤ gi by omega)
            have hvm : v < m := by omega
            have hvl : v < vrs.length := by rw [HM.out]; exact hvm
            obtain ⟨rb, roff, rfl, hrb, hrrow⟩ := (HSt.out _ HB4.out).2.2.1.resolve_left (by intro h; rw [h] at hvl; simp at hvl)
            have r0 := hrrow v hvl
            have Hv : Box (vrs[v]! = vrs[v]) := ⟨getElem!_pos vrs v hvl⟩
            have HIv : Box (∀ wx, Below w.heap.size w wx → IntsAt wx vrs[v].va vrs[v].vs) := ⟨fun wx hb => (HSt.out wx hb).2.2.2 _ (List.getElem_mem hvl)⟩
            have hvs9 : vrs[v].vs.length ≤ 9000000000000000000 := by have := HLim.out.1 _ (List.getElem_mem hvl); omega
            generalize vrs[v] = V at *
            obtain ⟨va, vc, vs⟩ := V
            simp only at r0 HIv hvs9
            have HGf : Box (S.GotOk tx ⟨gi, gf⟩ ↔ gf ∈ vs) := ⟨by
              rw [HGi.out, hvv, Int.toNat_natCast, Hv.out]
              simp only
              constructor
              · rintro ⟨_, _, _, h | h⟩
                · exact absurd h h3
                · exact h
              · intro h; exact ⟨by omega, by omega, h2, Or.inr h⟩⟩
            have HCt := box (fun wx hb => contains_ints vs gf va vc wx (HIv.out wx hb) hvs9)
            have hBd : ∀ k, Below w.heap.size w (W4.drewN k) := fun k => below_tr HB4.out ⟨rfl, rfl, rfl, Nat.le_refl _, fun _ _ => rfl⟩
            have hge0 : (0 : Int) ≤ (v : Int) := by omega
            have hvmi : (v : Int) < (m : Int) := by omega
            have hd2n : decide (m ≤ v) = false := decide_eq_false (by omega)
            have hd1n : decide ((v : Int) < 0) = false := decide_eq_false (by omega)
            subst hvv
            clear hrrow Hv h0 h1 h2 h3 HGi HGs HTale HGot HRow HOk HTw2 HTi
            obtain ⟨u, Hu⟩ : ∃ u, Box (decide (gf ∈ vs) = u) := ⟨_, ⟨rfl⟩⟩
            rw [Hu.out] at HCt
            go_region_held3 (fun w' => w'.cell? ⟨w.heap.size, 1, none⟩ = some (.slice (some ⟨rb, roff, none⟩) m rc) ∧ w'.cell? ⟨A, 0, none⟩ = some (.int .i64 tx) ∧ w'.cell? ⟨C, 0, none⟩ = some (.int .i64 (v : Int)) ∧ w'.cell? ⟨C, 1, none⟩ = some (.int .i64 gf) ∧ w'.cell? ⟨rb, roff + v, none⟩ = some (.slice va vs.length vc)) (first | exact ⟨s1, t0, e0, e1, r0⟩ | assumption) (first
              | (go_at_call 19; refine (HCt.out _ (hBd 1)).mono ?_; rintro e w9 ⟨rfl, rfl⟩))
            all_goals (go_wp2_with fail)
            all_goals go_meet
            all_goals exact ⟨!u, rfl, fun h => by
              have h5 : u = false := by simpa using h
              rw [HGf.out]
              exact of_decide_eq_false (Hu.out.trans h5), fun h => HGf.out.2 (of_decide_eq_true (Hu.out.trans (by simpa using h))), 1, rfl⟩
          case rest =>
          obtain ⟨u, rfl, hu1, hu2, nq2, rfl⟩ := hcut
          have HU1 := box hu1; have HU2 := box hu2
          have hB5 : Below W4.heap.size W4 (W4.drewN nq2) := ⟨rfl, rfl, rfl, Nat.le_refl _, fun _ _ => rfl⟩
          have HC5 := box (HAf.out _ _ HC4.out hB5)
          have HK5 := box (HK4.out.after hB5)
          clear hu1 hu2 hB5 t0 e0 e1 s1 HC4 HK4 HB4
          generalize W4.drewN nq2 = W5 at *
          cases u with
          | true =>
            go_wp2_with fail
            exact HNo.out 4 _ ((HCk.out _).1 HC5.out).1 (by decide) (by decide) (fun h => absurd ((HTi.out.1 h).2.2.2 _ HMem.out) (HU1.out (by simp)))
          | false =>
            go_wp2_with fail
            go_roundw
            case rel => exact ⟨q + 1, hqt, by go_num, ⟨HC5.out, HK5.out⟩, ⟨fun j hj => by
              by_cases e : j = q
              · rw [e, Hg.out]; exact HU2.out (by simp)
              · exact HG.out j (by omega)⟩⟩
            case measure => simp [RowKit.intOf]; omega
        · have hTi : S.TaleOk i := HTw2.out (fun g hg => by
            obtain ⟨j, hj, rfl⟩ := List.mem_iff_getElem.1 hg
            have := HG.out j (by have := HGL.out; omega)
            rwa [getElem!_pos gs j hj] at this)
          have HTi2 := box hTi
          have HC6 := box HC3.out.1
          clear hTi HC3 HG
          go_wp2_with fail
          go_roundw
          case rel => exact ⟨i + 1, hlt, by go_num, HC6, ⟨fun j hj => by
            by_cases e : j = i
            · rw [e]; exact HTi2.out
            · exact HT.out j (by omega)⟩⟩
          case measure => simp [RowKit.intOf]; omega
    · have HTall : Box (∀ j, j < n → S.TaleOk j) := ⟨fun j hj => HT.out j (by omega)⟩
      have s1 := ((HCk.out _).1 HC.out).2.cell (i := 1) rfl
      clear HT
      go_wp2_with fail
      go_loopw [98] (fun t98 wx => ∃ k : Nat, k ≤ m ∧ t98 = .int .i64 (k : Int) ∧ Box (CW wx) ∧ Box (∀ j, j < k → S.RowOk vrs[j]!)) (fun t98 _ => m - (RowKit.intOf t98).toNat)
      case atStart => exact ⟨0, Nat.zero_le _, rfl, HC, ⟨fun j hj => by omega⟩⟩
      case round =>
        obtain ⟨k, hk, rfl, HC2, HR⟩ := hrel
        clear HC s1
        by_cases hkt : k < m
        · have hkl : k < vrs.length := by rw [HM.out]; exact hkt
          have hst := HSt.out _ ((HCk.out _).1 HC2.out).1
          obtain ⟨rb, roff, rfl, _, hrow⟩ := hst.2.2.1.resolve_left (by intro h; rw [h] at hkl; simp at hkl)
          have c0 := hrow k hkl
          have HIv : Box (∀ wx, Below w.heap.size w wx → IntsAt wx vrs[k].va vrs[k].vs) := ⟨fun wx hb => (HSt.out wx hb).2.2.2 _ (List.getElem_mem hkl)⟩
          have hvc := HLim.out.1 _ (List.getElem_mem hkl)
          have Hv : Box (vrs[k]! = vrs[k]) := ⟨getElem!_pos vrs k hkl⟩
          have HNo : Box (∀ (wx : World), Below w.heap.size w wx → ¬ S.RowOk vrs[k]! → Post (.returned (.int .i64 4)) wx) := ⟨fun wx hb hno => HPost.out _ _ 4 hb rfl ⟨fun h => by simp at h, fun h => absurd ((HOk.out.1 h).2.2.2 k hkt) hno⟩ (by decide)⟩
          generalize vrs[k] = V at *
          obtain ⟨va, vc, vs⟩ := V
          simp only at c0 HIv hvc
          have HRo : Box (S.RowOk vrs[k]! ↔ ∀ i, i < vs.length → (¬ vs[i]! ∈ vs.take i ∧ ∃ t ∈ tls, t.tx = vs[i]!)) := ⟨by rw [HRow.out, Hv.out]⟩
          obtain ⟨vl, HVL⟩ : ∃ vl, Box (vs.length = vl) := ⟨_, ⟨rfl⟩⟩
          rw [HVL.out] at c0 hvc HRo
          clear hrow hst Hv
          go_wp2_with fail
          go_loopw [104] (fun t104 wx => ∃ q : Nat, q ≤ vl ∧ t104 = .int .i64 (q : Int) ∧ Box (CW wx) ∧ Box (∀ i, i < q → (¬ vs[i]! ∈ vs.take i ∧ ∃ t ∈ tls, t.tx = vs[i]!))) (fun t104 _ => vl - (RowKit.intOf t104).toNat)
          case atStart => exact ⟨0, Nat.zero_le _, rfl, HC2, ⟨fun j hj => by omega⟩⟩
          case round =>
            obtain ⟨q, hq, rfl, HC3, HG⟩ := hrel
            clear HC2 c0
            by_cases hqt : q < vl
            · have hql : q < vs.length := by rw [HVL.out]; exact hqt
              obtain ⟨vb, voff, rfl, _, hvrow⟩ := (HIv.out _ ((HCk.out _).1 HC3.out).1).resolve_left (by intro h; rw [h] at hql; simp at hql)
              have v0 := hvrow q hql
              have Hx : Box (vs[q]! = vs[q]) := ⟨getElem!_pos vs q hql⟩
              generalize vs[q] = x at *
              clear hvrow
              go_upto_region 23 with (fail)
              refine name_world (fun W => CW W ∧ Blk W wr.heap.size 3 [.int .i64 x]) ⟨HAf.out _ _ HC3.out ((Below.refl _ _).alloc (Nat.le_refl _) _), Blk.new _ _ _⟩ ?_
              rintro W4 ⟨hc4, hk4⟩
              have HC4 := box hc4; have HK4 := box hk4
              have x0 := hk4.cell (i := 0) rfl
              have s0 := ((HCk.out _).1 hc4).2.cell (i := 0) rfl
              have hB4 := ((HCk.out _).1 hc4).1
              have HB4 := box hB4
              clear hc4 hk4 v0 HC3 hB4
              generalize wr.heap.size = X at *
              have htk : (vs.take q).length = q := by rw [List.length_take]; omega
              have HCt := box (fun wx hb => contains_ints (vs.take q) x (some ⟨vb, voff, none⟩) vc wx ((HIv.out wx hb).take q) (by omega))
              rw [htk] at HCt
              obtain ⟨u, Hu⟩ : ∃ u, Box (decide (x ∈ vs.take q) = u) := ⟨_, ⟨rfl⟩⟩
              rw [Hu.out] at HCt
              have hBd : ∀ k, Below w.heap.size w (W4.drewN k) := fun k => below_tr HB4.out ⟨rfl, rfl, rfl, Nat.le_refl _, fun _ _ => rfl⟩
              have HCf := box (fun wx (hb : Below W4.heap.size W4 wx) => containsFunc_tales tls ta tc 110 #[.pointer (some ⟨X, 0, none⟩)] (fun t => t.tx == x) wx (HSt.out wx (below_tr HB4.out hb)).1 (by rw [HN.out]; omega) (fun V hV => ckTale_tells x X V (HK4.out.after (below_tr hb hV)) tls) (enters_fn Try.func110 (by kernel_rfl) rfl))
              rw [HN.out] at HCf
              obtain ⟨an, HAN⟩ : ∃ an, Box (tls.any (fun t => t.tx == x) = an) := ⟨_, ⟨rfl⟩⟩
              rw [HAN.out] at HCf
              have hqc : q ≤ vc := by omega
              have hqci : (q : Int) ≤ (vc : Int) := by omega
              have hvc0 : ¬ vc = 0 := by omega
              have hvc1 : ¬ 0 = vc := by omega
              have HW : Box ((¬ vs[q]! ∈ vs.take q ∧ ∃ t ∈ tls, t.tx = vs[q]!) ↔ (u = false ∧ an = true)) := ⟨by
                rw [Hx.out, ← Hu.out, ← HAN.out, decide_eq_false_iff_not, List.any_eq_true]
                simp only [beq_iff_eq]⟩
              go_cut [120] (fun s120 wx => ∃ b2 : Bool, s120 = .bool b2 ∧ (b2 = true → ¬ (u = false ∧ an = true)) ∧ (b2 = false → (u = false ∧ an = true)) ∧ Below W4.heap.size W4 wx)
              case first =>
                clear HW Hu HAN Hx HG HRo HNo HTall HR HGot HTale HRow HOk HIv HCk HSt
                have HB41 : Box (Below W4.heap.size W4 (W4.drewN 1)) := ⟨⟨rfl, rfl, rfl, Nat.le_refl _, fun _ _ => rfl⟩⟩
                cases u with
                | true =>
                  first
                    | go_region_with (first
                        | (go_at_call 19; refine (HCt.out _ (hBd 1)).mono ?_; rintro e w9 ⟨rfl, rfl⟩))
                    | fail
                  all_goals (go_wp2_with fail)
                  all_goals go_meet
                  all_goals exact ⟨true, rfl, fun _ h => by simp at h, fun h => by simp at h, HB41.out⟩
                | false =>
                  go_region_held3 (fun w' => w'.cell? ⟨X, 0, none⟩ = some (.int .i64 x) ∧ w'.cell? ⟨w.heap.size, 0, none⟩ = some (.slice ta n tc)) (first | exact ⟨x0, s0⟩ | assumption) (first
                    | (go_at_call 19; refine (HCt.out _ (hBd 1)).mono ?_; rintro e w9 ⟨rfl, rfl⟩)
                    | (go_at_call 47; refine (HCf.out _ HB41.out).mono ?_; rintro e w10 ⟨rfl, hb10⟩; have HB10 := box (below_tr HB41.out hb10); have hS10 := (show w10.cell? ⟨X, 0, none⟩ = some (.int .i64 x) ∧ w10.cell? ⟨w.heap.size, 0, none⟩ = some (.slice ta n tc) from ⟨(HK4.out.after HB10.out).cell rfl, ((hb10.cell (p := ⟨w.heap.size, 0, none⟩) (block_lt_of_cell s0)).trans s0)⟩); clear hb10))
                  all_goals (go_wp2_with fail)
                  all_goals go_meet
                  all_goals exact ⟨!an, rfl, fun h h2 => by rw [h2.2] at h; simp at h, fun h => ⟨by simp, by simpa using h⟩, HB10.out⟩
              case rest =>
              obtain ⟨b2, rfl, hu1, hu2, hb5⟩ := hcut
              have HU1 := box (fun h => fun h2 => hu1 h (HW.out.1 h2)); have HU2 := box (fun h => HW.out.2 (hu2 h))
              have HC5 := box (HAf.out _ _ HC4.out hb5)
              clear hu1 hu2 hb5 x0 s0 HC4 HK4 HB4 HCt HCf HW Hu HAN
              cases b2 with
              | true =>
                go_wp2_with fail
                exact HNo.out _ ((HCk.out _).1 HC5.out).1 (fun h => HU1.out (by simp) (HRo.out.1 h q hqt))
              | false =>
                go_wp2_with fail
                go_roundw
                case rel => exact ⟨q + 1, hqt, by go_num, HC5, ⟨fun j hj => by
                  by_cases e : j = q
                  · rw [e]; exact HU2.out (by simp)
                  · exact HG.out j (by omega)⟩⟩
                case measure => simp [RowKit.intOf]; omega
            · have HRk : Box (S.RowOk vrs[k]!) := ⟨HRo.out.2 (fun j hj => HG.out j (by omega))⟩
              clear HG
              go_wp2_with fail
              go_roundw
              case rel => exact ⟨k + 1, hkt, by go_num, HC3, ⟨fun j hj => by
                by_cases e : j = k
                · rw [e]; exact HRk.out
                · exact HR.out j (by omega)⟩⟩
              case measure => simp [RowKit.intOf]; omega
        · have HF : Box OK := ⟨HOk.out.2 ⟨by omega, by omega, HTall.out, fun j hj => HR.out j (by omega)⟩⟩
          clear HR
          go_wp2_with fail
          exact HPost.out _ _ 0 ((HCk.out _).1 HC2.out).1 rfl ⟨fun _ => HF.out, fun _ => rfl⟩ (by decide)
end Go.Proofs.Ytgkclgmekbgjmaa
