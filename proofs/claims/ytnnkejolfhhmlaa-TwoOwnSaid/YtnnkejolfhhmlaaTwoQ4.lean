/- two.Play: take walked. -/
import Derived.Test.YtnnkejolfhhmlaaTwoQ3
import Derived.Test.YtnnkejolfhhmlaaLkAsk
namespace Go.Proofs.Ytnnkejolfhhmlaa
open Go.RowKit Go.Lib

set_option maxRecDepth 20000 in
set_option maxHeartbeats 2000000 in
theorem mode_any (ox okd oi : Int) (w : World) : Calls Try.prog 19 #[.agg #[.int .i64 ox, .int .i64 okd, .int .i64 oi]] w fun e w' => e = .returned (.int .i64 (TwoM.mode ⟨ox, okd, oi⟩)) ∧ Below w.heap.size w w' := by
  have hB : Below w.heap.size w (w.alloc (.cells #[.int .i64 ox, .int .i64 okd, .int .i64 oi] 30)) := (Below.refl _ _).alloc (Nat.le_refl _) _
  by_cases h : okd = 2
  · have e : TwoM.mode ⟨ox, okd, oi⟩ = 5 := if_pos h
    rw [e]
    subst h
    go_enter Try.func19, Try.ntmps19
    go_wp2_with fail
    go_ret
    exact ⟨rfl, hB⟩
  · have e : TwoM.mode ⟨ox, okd, oi⟩ = 3 := if_neg h
    rw [e]
    have hd : (okd == 2) = false := by simp [h]
    go_enter Try.func19, Try.ntmps19
    go_wp2_with fail
    go_ret
    exact ⟨rfl, hB⟩
open TwoM in
set_option maxRecDepth 20000 in
set_option maxHeartbeats 16000000 in
theorem ttake_any (m : Nat) (hFr : FreeSpec (m + 1)) (hDr : DropSpec m) : TakeSpec (m + 1) := by
  intro B Tb w s v o j G p h hAt hj hb hI ht hm
  have HFr := box hFr; have HDr := box hDr; have HTo := box ht; have HI := box hI
  obtain ⟨i0, hi0, hz0, hz1, hz2⟩ := info_parts Try.infoOpQ
  have hbz := RunM.bad_zero hb
  obtain ⟨ox, okd, oi⟩ := o
  dsimp only at hj hbz
  subst hj
  have hj12 : j < 12 := by omega
  have hji : (j : Int) < 12 := by omega
  have HBad := box hb
  clear hbz
  have HPost : Box (∀ e w', e = Ending.returned (.tuple #[]) → (∃ s' v', Take s ⟨j, okd, oi⟩ s' ∧ At w' B Tb s' v' ∧ Only B Tb v v' w w') → Post B Tb (Take s ⟨j, okd, oi⟩) v w e w') := ⟨fun e w' h1 h2 => ⟨h1, h2⟩⟩
  obtain ⟨PP, HPP⟩ : ∃ P, Box (Post B Tb (Take s ⟨j, okd, oi⟩) v w = P) := ⟨_, ⟨rfl⟩⟩
  dsimp only
  rw [HPP.out] at HPost ⊢
  obtain ⟨hsm1, hsm2⟩ := small hI ht
  have hsm2 := hsm2 j
  obtain ⟨X, HX⟩ : ∃ x, Box (w.heap.size = x) := ⟨_, ⟨rfl⟩⟩
  have hal : Below w.heap.size w (w.alloc (.cells #[.int .i64 j, .int .i64 okd, .int .i64 oi] 30)) := (Below.refl _ _).alloc (Nat.le_refl _) _
  obtain ⟨la, lc, lo, W0, hW0⟩ := hAt
  have HOn : Box (Only B Tb v v w (w.alloc (.cells #[.int .i64 j, .int .i64 okd, .int .i64 oi] 30))) := ⟨(Only.refl _ _ _ _).after hal hW0.bw⟩
  have HW := box (hW0.after hal)
  have hXT : X ≠ Tb := by have := hW0.tlt; have := HX.out; omega
  have HXr : Box (∀ i, i < 13 → (v i).ownBlock ≠ some X) := ⟨fun i hi e => by have := (hW0.rlt hi e).2; have := HX.out; omega⟩
  have HXb : Box (Blk (w.alloc (.cells #[.int .i64 j, .int .i64 okd, .int .i64 oi] 30)) X 30 [.int .i64 j, .int .i64 okd, .int .i64 oi]) := ⟨Blk.new' HX.out _ _⟩
  clear hal hW0 hFr hDr hI ht hb
  go_enter Try.func14, Try.ntmps14
  go_upto_region 1 with (fail)
  rw [HX.out]
  obtain ⟨V, HV⟩ : ∃ x, Box (w.alloc (.cells #[.int .i64 j, .int .i64 okd, .int .i64 oi] 30) = x) := ⟨_, ⟨rfl⟩⟩
  rw [HV.out] at HOn HW HXb ⊢
  have x0 := HXb.out.cell (i := 0) rfl
  have x1 := HXb.out.cell (i := 1) rfl
  have x2 := HXb.out.cell (i := 2) rfl
  have hXl := HXb.out.lt
  have cD := HW.out.cDead hj12
  have hTl := HW.out.tlt
  obtain ⟨d, HD⟩ : ∃ x, Box (s.dead j = x) := ⟨_, ⟨rfl⟩⟩
  rw [HD.out] at cD
  go_quiet (fail)
  have hq : Below V.heap.size V (V.drewN nq) := ⟨rfl, rfl, rfl, Nat.le_refl _, fun _ _ => rfl⟩
  have HW1 := box (HW.out.after hq)
  have HXb1 := box (HXb.out.after hq)
  have HOn1 : Box (Only B Tb v v w (V.drewN nq)) := ⟨HOn.out.after hq HW.out.bw⟩
  obtain ⟨V1, HV1⟩ : ∃ x, Box (V.drewN nq = x) := ⟨_, ⟨rfl⟩⟩
  rw [HV1.out] at HW1 HXb1 HOn1 ⊢
  clear x0 x1 x2 cD hXl hTl HW HXb HOn hq HV HV1
  cases d with
  | true =>
    have HFin := box (HPost.out _ V1 rfl ⟨s, v, .dead rfl HD.out, ⟨_, _, _, _, HW1.out⟩, HOn1.out⟩)
    go_wp2_with fail
    exact bodyPost_end (results_none rfl _ _ _) rfl HFin.out
  | false =>
    obtain ⟨oa, oc, hvj, _, _, _, _⟩ := OpsAt.own (HW1.out.late hj12)
    obtain ⟨LL, HLL⟩ : ∃ x, Box ((s.late j).length = x) := ⟨_, ⟨rfl⟩⟩
    rw [HLL.out] at hvj hsm2
    have x0 := HXb1.out.cell (i := 0) rfl
    have hXl := HXb1.out.lt
    have hTl := HW1.out.tlt
    have cL := HW1.out.cLate hj12
    rw [hvj] at cL
    go_upto_region 2 with (fail)
    go_quiet (fail)
    have hq : Below V1.heap.size V1 (V1.drewN nq) := ⟨rfl, rfl, rfl, Nat.le_refl _, fun _ _ => rfl⟩
    have HW2 := box (HW1.out.after hq)
    have HXb2 := box (HXb1.out.after hq)
    have HOn2 : Box (Only B Tb v v w (V1.drewN nq)) := ⟨HOn1.out.after hq HW1.out.bw⟩
    obtain ⟨V2, HV2⟩ : ∃ x, Box (V1.drewN nq = x) := ⟨_, ⟨rfl⟩⟩
    rw [HV2.out] at HW2 HXb2 HOn2 ⊢
    clear x0 cL hXl hTl HW1 HXb1 HOn1 hq HV2
    have x0 := HXb2.out.cell (i := 0) rfl
    have x1 := HXb2.out.cell (i := 1) rfl
    have x2 := HXb2.out.cell (i := 2) rfl
    have hXl := HXb2.out.lt
    have hTl := HW2.out.tlt
    by_cases hL : 0 < LL
    · have hLi : (0 : Int) < (LL : Int) := by omega
      have dL : decide ((0 : Int) < (LL : Int)) = true := decide_eq_true hLi
      go_upto_region 3 with (fail)
      have hne : (Value.slice oa LL oc).ownBlock ≠ some X := by rw [← hvj]; exact HXr.out j (by omega)
      have HOut : Box (V2.ownsRow B 30 3 (.slice oa LL oc) LL (opVals (s.late j))) := ⟨by
        have h1 := HW2.out.late hj12
        rwa [hvj, HLL.out] at h1⟩
      have HCx : Box (∀ wx : World, V2.grownBy wx (Value.slice oa LL oc).ownBlock → wx.cell? ⟨Tb, 1 + j, none⟩ = some (.slice oa LL oc) ∧ wx.frozen? ⟨Tb, 1 + j, none⟩ = false ∧ Tb < wx.heap.size ∧ Blk wx X 30 [.int .i64 (j : Int), .int .i64 okd, .int .i64 oi]) := ⟨fun wx hg => HW2.out.rowFacts (by omega) hvj HXb2.out hne hg (by have h1 := HW2.out.cLate hj12; rwa [hvj] at h1)⟩
      have hB2 : B ≤ V2.heap.size := HW2.out.bw
      go_cut [] from 8 to 98 (fun wx => ∃ u, Box (TwoW wx B Tb { s with late := upd s.late j (s.late j ++ [⟨j, okd, oi⟩]) } (upd v j u) la lc lo W0 ∧ Only B Tb v (upd v j u) V2 wx))
      case first => as_aux_lemma =>
        obtain ⟨PV, HPV⟩ : ∃ PV : Nat → Option Value, Box (PV = fun i => ([some (.pointer (some ⟨Tb, 0, none⟩)), some (.pointer (some ⟨X, 0, none⟩)), some (.int .i64 (j : Int)), some (.pointer (some ⟨Tb, 0, none⟩)), some (.pointer (some ⟨X, 0, none⟩)), some (.int .i64 (j : Int)), some (.pointer (some ⟨Tb, 0, none⟩)), some (.pointer (some ⟨Tb, 1, none⟩)), some (.pointer (some ⟨Tb, 1 + j, none⟩)), some (.slice oa LL oc), some (.agg #[.int .i64 (j : Int), .int .i64 okd, .int .i64 oi]), none, none, some (.pointer (some ⟨Tb, 0, none⟩)), some (.pointer (some ⟨Tb, 1, none⟩)), some (.pointer (some ⟨Tb, 1 + j, none⟩)), none] : List (Option Value)).getD i none) := ⟨_, ⟨rfl⟩⟩
        refine wp_region_dagv (by kernel_rfl) (fun Lf vals wx => (∀ i v, PV i = some v → Lf.getD i false = true → vals i = v) ∧ PutR V2 (.slice oa LL oc) B 30 3 LL (opVals (s.late j)) ⟨Tb, 1 + j, none⟩ [.int .i64 (j : Int), .int .i64 okd, .int .i64 oi] (Lf.getD 11 false) (Lf.getD 12 false) (Lf.getD 16 false) (vals 11) (vals 12) wx) (by kernel_rfl) ?_ ?_ ?_
        · refine ⟨fun i v _ h => absurd h (by simp [Array.getD_eq_getD_getElem?, Array.getElem?_replicate]; try (split <;> simp)), ?_⟩
          simp only [Array.getD_eq_getD_getElem?, Array.getElem?_replicate, List.size_toArray, List.length_cons, List.length_nil, Nat.reduceAdd, Nat.reduceLT, if_true, Option.getD_some]
          exact PutR.start
        · intro i hi o ho Lf vals b wx hat haft hL hR
          obtain ⟨hP, hS⟩ := hR
          have hco := hat.const
          have hkeep : ∀ i v, (PV i = some v ∨ PV i = none) → Lf.getD i true = false → (∀ j u, PV j = some u → (Lf.setIfInBounds i true).getD j false = true → Dag.turn vals i v j = u) := fun i v hv hL j u hu hj => by
            by_cases e : j = i
            · subst e; rw [Dag.turn_same]; rcases hv with hv | hv <;> rw [hv] at hu <;> simp at hu; exact hu
            · rw [Dag.turn_other _ _ e]; rw [getD_set_ne false (Ne.symm e)] at hj; exact hP j u hu hj
          have r0 : b.eval (.tmp 0) = .pointer (some ⟨Tb, 0, none⟩) := hat.old 0 (by
            intro j o' hj
            match j with
            | 0 | 1 | 2 | 3 | 4 | 5 | 6 | 7 | 8 | 9 | 10 | 11 | 12 | 13 | 14 | 15 | 16 => injection hj with hj; subst hj; simp
            | j + 17 => cases hj)
          have r3 : b.eval (.tmp 3) = .pointer (some ⟨X, 0, none⟩) := hat.old 3 (by
            intro j o' hj
            match j with
            | 0 | 1 | 2 | 3 | 4 | 5 | 6 | 7 | 8 | 9 | 10 | 11 | 12 | 13 | 14 | 15 | 16 => injection hj with hj; subst hj; simp
            | j + 17 => cases hj)
          match i, hi with
          | 0, _ =>
            injection ho with ho
            subst ho
            have q16 : Lf.getD 16 false = false := by
              cases h : Lf.getD 16 false with
              | false => rfl
              | true => have := hat.closed 16 _ h rfl ⟨0, .phase⟩ (by simp) rfl; rw [Dag.off hL] at this; cases this
            have hg := hS.g q16
            obtain ⟨c1, z1, hTx, hXx⟩ := HCx.out wx hg
            have y0 := hXx.cell (i := 0) rfl
            have y1 := hXx.cell (i := 1) rfl
            have y2 := hXx.cell (i := 2) rfl
            have hXl2 := hXx.lt
            refine Dag.yields (w' := wx) (.pointer (some ⟨Tb, 0, none⟩)) ?_ ⟨.pointer (some ⟨Tb, 0, none⟩), rfl, hkeep 0 _ (Or.inl (by rw [HPV.out]; rfl)) hL, ?_⟩
            · clear hP hS hat haft hkeep hL hg q16
              generalize b.eval = ρ at *
              go_simp
            · simp only [getD_set_ne false (show 0 ≠ 11 by decide), getD_set_ne false (show 0 ≠ 12 by decide), getD_set_ne false (show 0 ≠ 16 by decide), Dag.turn_other vals (i := 0) (j := 11) _ (by decide), Dag.turn_other vals (i := 0) (j := 12) _ (by decide)]
              exact hS
          | 1, _ =>
            injection ho with ho
            subst ho
            have q16 : Lf.getD 16 false = false := by
              cases h : Lf.getD 16 false with
              | false => rfl
              | true => have := hat.closed 16 _ h rfl ⟨1, .phase⟩ (by simp) rfl; rw [Dag.off hL] at this; cases this
            have hg := hS.g q16
            obtain ⟨c1, z1, hTx, hXx⟩ := HCx.out wx hg
            have y0 := hXx.cell (i := 0) rfl
            have y1 := hXx.cell (i := 1) rfl
            have y2 := hXx.cell (i := 2) rfl
            have hXl2 := hXx.lt
            refine Dag.yields (w' := wx) (.pointer (some ⟨X, 0, none⟩)) ?_ ⟨.pointer (some ⟨X, 0, none⟩), rfl, hkeep 1 _ (Or.inl (by rw [HPV.out]; rfl)) hL, ?_⟩
            · clear hP hS hat haft hkeep hL hg q16
              generalize b.eval = ρ at *
              go_simp
            · simp only [getD_set_ne false (show 1 ≠ 11 by decide), getD_set_ne false (show 1 ≠ 12 by decide), getD_set_ne false (show 1 ≠ 16 by decide), Dag.turn_other vals (i := 1) (j := 11) _ (by decide), Dag.turn_other vals (i := 1) (j := 12) _ (by decide)]
              exact hS
          | 2, _ =>
            injection ho with ho
            subst ho
            have e26 : b.eval (.tmp 26) = .pointer (some ⟨X, 0, none⟩) := (hat.new 1 _ 26 (haft ⟨1, .data⟩ (by simp) rfl) rfl rfl).trans (hP 1 _ (by rw [HPV.out]; rfl) (haft ⟨1, .data⟩ (by simp) rfl))
            have q16 : Lf.getD 16 false = false := by
              cases h : Lf.getD 16 false with
              | false => rfl
              | true => have := hat.closed 16 _ h rfl ⟨2, .phase⟩ (by simp) rfl; rw [Dag.off hL] at this; cases this
            have hg := hS.g q16
            obtain ⟨c1, z1, hTx, hXx⟩ := HCx.out wx hg
            have y0 := hXx.cell (i := 0) rfl
            have y1 := hXx.cell (i := 1) rfl
            have y2 := hXx.cell (i := 2) rfl
            have hXl2 := hXx.lt
            refine Dag.yields (w' := wx) (.int .i64 (j : Int)) ?_ ⟨.int .i64 (j : Int), rfl, hkeep 2 _ (Or.inl (by rw [HPV.out]; rfl)) hL, ?_⟩
            · clear hP hS hat haft hkeep hL hg q16
              generalize b.eval = ρ at *
              go_simp
            · simp only [getD_set_ne false (show 2 ≠ 11 by decide), getD_set_ne false (show 2 ≠ 12 by decide), getD_set_ne false (show 2 ≠ 16 by decide), Dag.turn_other vals (i := 2) (j := 11) _ (by decide), Dag.turn_other vals (i := 2) (j := 12) _ (by decide)]
              exact hS
          | 3, _ =>
            injection ho with ho
            subst ho
            have q16 : Lf.getD 16 false = false := by
              cases h : Lf.getD 16 false with
              | false => rfl
              | true => have := hat.closed 16 _ h rfl ⟨3, .phase⟩ (by simp) rfl; rw [Dag.off hL] at this; cases this
            have hg := hS.g q16
            obtain ⟨c1, z1, hTx, hXx⟩ := HCx.out wx hg
            have y0 := hXx.cell (i := 0) rfl
            have y1 := hXx.cell (i := 1) rfl
            have y2 := hXx.cell (i := 2) rfl
            have hXl2 := hXx.lt
            refine Dag.yields (w' := wx) (.pointer (some ⟨Tb, 0, none⟩)) ?_ ⟨.pointer (some ⟨Tb, 0, none⟩), rfl, hkeep 3 _ (Or.inl (by rw [HPV.out]; rfl)) hL, ?_⟩
            · clear hP hS hat haft hkeep hL hg q16
              generalize b.eval = ρ at *
              go_simp
            · simp only [getD_set_ne false (show 3 ≠ 11 by decide), getD_set_ne false (show 3 ≠ 12 by decide), getD_set_ne false (show 3 ≠ 16 by decide), Dag.turn_other vals (i := 3) (j := 11) _ (by decide), Dag.turn_other vals (i := 3) (j := 12) _ (by decide)]
              exact hS
          | 4, _ =>
            injection ho with ho
            subst ho
            have q16 : Lf.getD 16 false = false := by
              cases h : Lf.getD 16 false with
              | false => rfl
              | true => have := hat.closed 16 _ h rfl ⟨4, .phase⟩ (by simp) rfl; rw [Dag.off hL] at this; cases this
            have hg := hS.g q16
            obtain ⟨c1, z1, hTx, hXx⟩ := HCx.out wx hg
            have y0 := hXx.cell (i := 0) rfl
            have y1 := hXx.cell (i := 1) rfl
            have y2 := hXx.cell (i := 2) rfl
            have hXl2 := hXx.lt
            refine Dag.yields (w' := wx) (.pointer (some ⟨X, 0, none⟩)) ?_ ⟨.pointer (some ⟨X, 0, none⟩), rfl, hkeep 4 _ (Or.inl (by rw [HPV.out]; rfl)) hL, ?_⟩
            · clear hP hS hat haft hkeep hL hg q16
              generalize b.eval = ρ at *
              go_simp
            · simp only [getD_set_ne false (show 4 ≠ 11 by decide), getD_set_ne false (show 4 ≠ 12 by decide), getD_set_ne false (show 4 ≠ 16 by decide), Dag.turn_other vals (i := 4) (j := 11) _ (by decide), Dag.turn_other vals (i := 4) (j := 12) _ (by decide)]
              exact hS
          | 5, _ =>
            injection ho with ho
            subst ho
            have e29 : b.eval (.tmp 29) = .pointer (some ⟨X, 0, none⟩) := (hat.new 4 _ 29 (haft ⟨4, .data⟩ (by simp) rfl) rfl rfl).trans (hP 4 _ (by rw [HPV.out]; rfl) (haft ⟨4, .data⟩ (by simp) rfl))
            have q16 : Lf.getD 16 false = false := by
              cases h : Lf.getD 16 false with
              | false => rfl
              | true => have := hat.closed 16 _ h rfl ⟨5, .phase⟩ (by simp) rfl; rw [Dag.off hL] at this; cases this
            have hg := hS.g q16
            obtain ⟨c1, z1, hTx, hXx⟩ := HCx.out wx hg
            have y0 := hXx.cell (i := 0) rfl
            have y1 := hXx.cell (i := 1) rfl
            have y2 := hXx.cell (i := 2) rfl
            have hXl2 := hXx.lt
            refine Dag.yields (w' := wx) (.int .i64 (j : Int)) ?_ ⟨.int .i64 (j : Int), rfl, hkeep 5 _ (Or.inl (by rw [HPV.out]; rfl)) hL, ?_⟩
            · clear hP hS hat haft hkeep hL hg q16
              generalize b.eval = ρ at *
              go_simp
            · simp only [getD_set_ne false (show 5 ≠ 11 by decide), getD_set_ne false (show 5 ≠ 12 by decide), getD_set_ne false (show 5 ≠ 16 by decide), Dag.turn_other vals (i := 5) (j := 11) _ (by decide), Dag.turn_other vals (i := 5) (j := 12) _ (by decide)]
              exact hS
          | 6, _ =>
            injection ho with ho
            subst ho
            have e28 : b.eval (.tmp 28) = .pointer (some ⟨Tb, 0, none⟩) := (hat.new 3 _ 28 (haft ⟨3, .data⟩ (by simp) rfl) rfl rfl).trans (hP 3 _ (by rw [HPV.out]; rfl) (haft ⟨3, .data⟩ (by simp) rfl))
            have q16 : Lf.getD 16 false = false := by
              cases h : Lf.getD 16 false with
              | false => rfl
              | true => have := hat.closed 16 _ h rfl ⟨6, .phase⟩ (by simp) rfl; rw [Dag.off hL] at this; cases this
            have hg := hS.g q16
            obtain ⟨c1, z1, hTx, hXx⟩ := HCx.out wx hg
            have y0 := hXx.cell (i := 0) rfl
            have y1 := hXx.cell (i := 1) rfl
            have y2 := hXx.cell (i := 2) rfl
            have hXl2 := hXx.lt
            refine Dag.yields (w' := wx) (.pointer (some ⟨Tb, 0, none⟩)) ?_ ⟨.pointer (some ⟨Tb, 0, none⟩), rfl, hkeep 6 _ (Or.inl (by rw [HPV.out]; rfl)) hL, ?_⟩
            · clear hP hS hat haft hkeep hL hg q16
              generalize b.eval = ρ at *
              go_simp
            · simp only [getD_set_ne false (show 6 ≠ 11 by decide), getD_set_ne false (show 6 ≠ 12 by decide), getD_set_ne false (show 6 ≠ 16 by decide), Dag.turn_other vals (i := 6) (j := 11) _ (by decide), Dag.turn_other vals (i := 6) (j := 12) _ (by decide)]
              exact hS
          | 7, _ =>
            injection ho with ho
            subst ho
            have e31 : b.eval (.tmp 31) = .pointer (some ⟨Tb, 0, none⟩) := (hat.new 6 _ 31 (haft ⟨6, .data⟩ (by simp) rfl) rfl rfl).trans (hP 6 _ (by rw [HPV.out]; rfl) (haft ⟨6, .data⟩ (by simp) rfl))
            have q16 : Lf.getD 16 false = false := by
              cases h : Lf.getD 16 false with
              | false => rfl
              | true => have := hat.closed 16 _ h rfl ⟨7, .phase⟩ (by simp) rfl; rw [Dag.off hL] at this; cases this
            have hg := hS.g q16
            obtain ⟨c1, z1, hTx, hXx⟩ := HCx.out wx hg
            have y0 := hXx.cell (i := 0) rfl
            have y1 := hXx.cell (i := 1) rfl
            have y2 := hXx.cell (i := 2) rfl
            have hXl2 := hXx.lt
            refine Dag.yields (w' := wx) (.pointer (some ⟨Tb, 1, none⟩)) ?_ ⟨.pointer (some ⟨Tb, 1, none⟩), rfl, hkeep 7 _ (Or.inl (by rw [HPV.out]; rfl)) hL, ?_⟩
            · clear hP hS hat haft hkeep hL hg q16
              generalize b.eval = ρ at *
              go_simp
            · simp only [getD_set_ne false (show 7 ≠ 11 by decide), getD_set_ne false (show 7 ≠ 12 by decide), getD_set_ne false (show 7 ≠ 16 by decide), Dag.turn_other vals (i := 7) (j := 11) _ (by decide), Dag.turn_other vals (i := 7) (j := 12) _ (by decide)]
              exact hS
          | 8, _ =>
            injection ho with ho
            subst ho
            have e32 : b.eval (.tmp 32) = .pointer (some ⟨Tb, 1, none⟩) := (hat.new 7 _ 32 (haft ⟨7, .data⟩ (by simp) rfl) rfl rfl).trans (hP 7 _ (by rw [HPV.out]; rfl) (haft ⟨7, .data⟩ (by simp) rfl))
            have e30 : b.eval (.tmp 30) = .int .i64 (j : Int) := (hat.new 5 _ 30 (haft ⟨5, .data⟩ (by simp) rfl) rfl rfl).trans (hP 5 _ (by rw [HPV.out]; rfl) (haft ⟨5, .data⟩ (by simp) rfl))
            have q16 : Lf.getD 16 false = false := by
              cases h : Lf.getD 16 false with
              | false => rfl
              | true => have := hat.closed 16 _ h rfl ⟨8, .phase⟩ (by simp) rfl; rw [Dag.off hL] at this; cases this
            have hg := hS.g q16
            obtain ⟨c1, z1, hTx, hXx⟩ := HCx.out wx hg
            have y0 := hXx.cell (i := 0) rfl
            have y1 := hXx.cell (i := 1) rfl
            have y2 := hXx.cell (i := 2) rfl
            have hXl2 := hXx.lt
            refine Dag.yields (w' := wx) (.pointer (some ⟨Tb, 1 + j, none⟩)) ?_ ⟨.pointer (some ⟨Tb, 1 + j, none⟩), rfl, hkeep 8 _ (Or.inl (by rw [HPV.out]; rfl)) hL, ?_⟩
            · clear hP hS hat haft hkeep hL hg q16
              generalize b.eval = ρ at *
              go_simp
            · simp only [getD_set_ne false (show 8 ≠ 11 by decide), getD_set_ne false (show 8 ≠ 12 by decide), getD_set_ne false (show 8 ≠ 16 by decide), Dag.turn_other vals (i := 8) (j := 11) _ (by decide), Dag.turn_other vals (i := 8) (j := 12) _ (by decide)]
              exact hS
          | 9, _ =>
            injection ho with ho
            subst ho
            have e33 : b.eval (.tmp 33) = .pointer (some ⟨Tb, 1 + j, none⟩) := (hat.new 8 _ 33 (haft ⟨8, .data⟩ (by simp) rfl) rfl rfl).trans (hP 8 _ (by rw [HPV.out]; rfl) (haft ⟨8, .data⟩ (by simp) rfl))
            have q16 : Lf.getD 16 false = false := by
              cases h : Lf.getD 16 false with
              | false => rfl
              | true => have := hat.closed 16 _ h rfl ⟨9, .phase⟩ (by simp) rfl; rw [Dag.off hL] at this; cases this
            have hg := hS.g q16
            obtain ⟨c1, z1, hTx, hXx⟩ := HCx.out wx hg
            have y0 := hXx.cell (i := 0) rfl
            have y1 := hXx.cell (i := 1) rfl
            have y2 := hXx.cell (i := 2) rfl
            have hXl2 := hXx.lt
            refine Dag.yields (w' := wx) (.slice oa LL oc) ?_ ⟨.slice oa LL oc, rfl, hkeep 9 _ (Or.inl (by rw [HPV.out]; rfl)) hL, ?_⟩
            · clear hP hS hat haft hkeep hL hg q16
              generalize b.eval = ρ at *
              go_simp
            · simp only [getD_set_ne false (show 9 ≠ 11 by decide), getD_set_ne false (show 9 ≠ 12 by decide), getD_set_ne false (show 9 ≠ 16 by decide), Dag.turn_other vals (i := 9) (j := 11) _ (by decide), Dag.turn_other vals (i := 9) (j := 12) _ (by decide)]
              exact hS
          | 10, _ =>
            injection ho with ho
            subst ho
            have q16 : Lf.getD 16 false = false := by
              cases h : Lf.getD 16 false with
              | false => rfl
              | true => have := hat.closed 16 _ h rfl ⟨10, .phase⟩ (by simp) rfl; rw [Dag.off hL] at this; cases this
            have hg := hS.g q16
            obtain ⟨c1, z1, hTx, hXx⟩ := HCx.out wx hg
            have y0 := hXx.cell (i := 0) rfl
            have y1 := hXx.cell (i := 1) rfl
            have y2 := hXx.cell (i := 2) rfl
            have hXl2 := hXx.lt
            refine Dag.yields (w' := wx) (.agg #[.int .i64 (j : Int), .int .i64 okd, .int .i64 oi]) ?_ ⟨.agg #[.int .i64 (j : Int), .int .i64 okd, .int .i64 oi], rfl, hkeep 10 _ (Or.inl (by rw [HPV.out]; rfl)) hL, ?_⟩
            · clear hP hS hat haft hkeep hL hg q16
              generalize b.eval = ρ at *
              go_simp
            · simp only [getD_set_ne false (show 10 ≠ 11 by decide), getD_set_ne false (show 10 ≠ 12 by decide), getD_set_ne false (show 10 ≠ 16 by decide), Dag.turn_other vals (i := 10) (j := 11) _ (by decide), Dag.turn_other vals (i := 10) (j := 12) _ (by decide)]
              exact hS
          | 11, _ =>
            injection ho with ho
            subst ho
            have e35 : b.eval (.tmp 35) = .agg #[.int .i64 (j : Int), .int .i64 okd, .int .i64 oi] := (hat.new 10 _ 35 (haft ⟨10, .data⟩ (by simp) rfl) rfl rfl).trans (hP 10 _ (by rw [HPV.out]; rfl) (haft ⟨10, .data⟩ (by simp) rfl))
            have q16 : Lf.getD 16 false = false := by
              cases h : Lf.getD 16 false with
              | false => rfl
              | true => have := hat.closed 16 _ h rfl ⟨11, .phase⟩ (by simp) rfl; rw [Dag.off hL] at this; cases this
            have hg := hS.g q16
            obtain ⟨c1, z1, hTx, hXx⟩ := HCx.out wx hg
            have y0 := hXx.cell (i := 0) rfl
            have y1 := hXx.cell (i := 1) rfl
            have y2 := hXx.cell (i := 2) rfl
            have hXl2 := hXx.lt
            have q12 : Lf.getD 12 false = false := by
              cases h : Lf.getD 12 false with
              | false => rfl
              | true => have := hat.closed 12 _ h rfl ⟨11, .data⟩ (by simp) rfl; rw [Dag.off hL] at this; cases this
            rw [q12, q16, Dag.off hL] at hS
            refine Dag.yields (w' := wx.alloc (.cells #[.int .i64 (j : Int), .int .i64 okd, .int .i64 oi] 30)) (.slice (some ⟨wx.heap.size, 0, none⟩) 1 1) ?_ ⟨_, rfl, hkeep 11 _ (Or.inr (by rw [HPV.out]; rfl)) hL, ?_⟩
            · clear hP hS hat haft hkeep hL hg
              generalize b.eval = ρ at *
              go_simp
            rw [Dag.on hL]
            simp only [getD_set_ne false (show 11 ≠ 12 by decide), getD_set_ne false (show 11 ≠ 16 by decide), Dag.turn_same, Dag.turn_other vals (i := 11) (j := 12) _ (by decide)]
            rw [q12, q16]
            exact hS.lay
          | 12, _ =>
            injection ho with ho
            subst ho
            have e34 : b.eval (.tmp 34) = .slice oa LL oc := (hat.new 9 _ 34 (haft ⟨9, .data⟩ (by simp) rfl) rfl rfl).trans (hP 9 _ (by rw [HPV.out]; rfl) (haft ⟨9, .data⟩ (by simp) rfl))
            have e36 : b.eval (.tmp 36) = vals 11 := hat.new 11 _ 36 (haft ⟨11, .data⟩ (by simp) rfl) rfl rfl
            have l11 : Lf.getD 11 false = true := haft ⟨11, .data⟩ (by simp) rfl
            have q16 : Lf.getD 16 false = false := by
              cases h : Lf.getD 16 false with
              | false => rfl
              | true => have := hat.closed 16 _ h rfl ⟨12, .phase⟩ (by simp) rfl; rw [Dag.off hL] at this; cases this
            have hg := hS.g q16
            obtain ⟨c1, z1, hTx, hXx⟩ := HCx.out wx hg
            have y0 := hXx.cell (i := 0) rfl
            have y1 := hXx.cell (i := 1) rfl
            have y2 := hXx.cell (i := 2) rfl
            have hXl2 := hXx.lt
            rw [l11, q16, Dag.off hL] at hS
            have hbl := hS.a rfl rfl
            have hown := ownsRow_below (HOut.out) hbl
            have hvb := hS.b rfl
            have hkb := hS.k rfl rfl rfl
            have hsz := hbl.size
            refine wp_append_lies wx _ _ 22 rfl (B) 30 i0 _ 3 24 Try.underlying22 hi0 hz0 hz1 hz2 rfl (by decide) (.slice oa LL oc) (LL) (opVals (s.late j)) e34 hown ⟨_, 0, none⟩ 1 1 [.int .i64 (j : Int), .int .i64 okd, .int .i64 oi] (e36.trans hvb) rfl (World.news_of_block (cs := #[.int .i64 (j : Int), .int .i64 okd, .int .i64 oi]) (t := 30) (fr := (0, 0)) hkb) (by simp [Value.oneCell']) (by omega) (by unfold maxLen; omega) (by omega) (by have := hsz; omega) _ rfl ?_
            intro gQ gcQ w'' hown2 hgrow hatg hltg
            refine ⟨_, rfl, hkeep 12 _ (Or.inr (by rw [HPV.out]; rfl)) hL, ?_⟩
            rw [Dag.on hL]
            simp only [getD_set_ne false (show 12 ≠ 11 by decide), getD_set_ne false (show 12 ≠ 16 by decide), Dag.turn_same, Dag.turn_other vals (i := 12) (j := 11) _ (by decide)]
            rw [l11, q16]
            exact hS.app hown2 hgrow hatg
          | 13, _ =>
            injection ho with ho
            subst ho
            have e25 : b.eval (.tmp 25) = .pointer (some ⟨Tb, 0, none⟩) := (hat.new 0 _ 25 (haft ⟨0, .data⟩ (by simp) rfl) rfl rfl).trans (hP 0 _ (by rw [HPV.out]; rfl) (haft ⟨0, .data⟩ (by simp) rfl))
            have q16 : Lf.getD 16 false = false := by
              cases h : Lf.getD 16 false with
              | false => rfl
              | true =>
                have h15 := hat.closed 16 _ h rfl ⟨15, .data⟩ (by simp) rfl
                have h14 := hat.closed 15 _ h15 rfl ⟨14, .data⟩ (by simp) rfl
                have h13 := hat.closed 14 _ h14 rfl ⟨13, .data⟩ (by simp) rfl
                rw [Dag.off hL] at h13; cases h13
            have hg := hS.g q16
            obtain ⟨c1, z1, hTx, hXx⟩ := HCx.out wx hg
            have y0 := hXx.cell (i := 0) rfl
            have y1 := hXx.cell (i := 1) rfl
            have y2 := hXx.cell (i := 2) rfl
            have hXl2 := hXx.lt
            refine Dag.yields (w' := wx) (.pointer (some ⟨Tb, 0, none⟩)) ?_ ⟨.pointer (some ⟨Tb, 0, none⟩), rfl, hkeep 13 _ (Or.inl (by rw [HPV.out]; rfl)) hL, ?_⟩
            · clear hP hS hat haft hkeep hL hg q16
              generalize b.eval = ρ at *
              go_simp
            · simp only [getD_set_ne false (show 13 ≠ 11 by decide), getD_set_ne false (show 13 ≠ 12 by decide), getD_set_ne false (show 13 ≠ 16 by decide), Dag.turn_other vals (i := 13) (j := 11) _ (by decide), Dag.turn_other vals (i := 13) (j := 12) _ (by decide)]
              exact hS
          | 14, _ =>
            injection ho with ho
            subst ho
            have e38 : b.eval (.tmp 38) = .pointer (some ⟨Tb, 0, none⟩) := (hat.new 13 _ 38 (haft ⟨13, .data⟩ (by simp) rfl) rfl rfl).trans (hP 13 _ (by rw [HPV.out]; rfl) (haft ⟨13, .data⟩ (by simp) rfl))
            have q16 : Lf.getD 16 false = false := by
              cases h : Lf.getD 16 false with
              | false => rfl
              | true =>
                have h15 := hat.closed 16 _ h rfl ⟨15, .data⟩ (by simp) rfl
                have h14 := hat.closed 15 _ h15 rfl ⟨14, .data⟩ (by simp) rfl
                rw [Dag.off hL] at h14; cases h14
            have hg := hS.g q16
            obtain ⟨c1, z1, hTx, hXx⟩ := HCx.out wx hg
            have y0 := hXx.cell (i := 0) rfl
            have y1 := hXx.cell (i := 1) rfl
            have y2 := hXx.cell (i := 2) rfl
            have hXl2 := hXx.lt
            refine Dag.yields (w' := wx) (.pointer (some ⟨Tb, 1, none⟩)) ?_ ⟨.pointer (some ⟨Tb, 1, none⟩), rfl, hkeep 14 _ (Or.inl (by rw [HPV.out]; rfl)) hL, ?_⟩
            · clear hP hS hat haft hkeep hL hg q16
              generalize b.eval = ρ at *
              go_simp
            · simp only [getD_set_ne false (show 14 ≠ 11 by decide), getD_set_ne false (show 14 ≠ 12 by decide), getD_set_ne false (show 14 ≠ 16 by decide), Dag.turn_other vals (i := 14) (j := 11) _ (by decide), Dag.turn_other vals (i := 14) (j := 12) _ (by decide)]
              exact hS
          | 15, _ =>
            injection ho with ho
            subst ho
            have e39 : b.eval (.tmp 39) = .pointer (some ⟨Tb, 1, none⟩) := (hat.new 14 _ 39 (haft ⟨14, .data⟩ (by simp) rfl) rfl rfl).trans (hP 14 _ (by rw [HPV.out]; rfl) (haft ⟨14, .data⟩ (by simp) rfl))
            have e27 : b.eval (.tmp 27) = .int .i64 (j : Int) := (hat.new 2 _ 27 (haft ⟨2, .data⟩ (by simp) rfl) rfl rfl).trans (hP 2 _ (by rw [HPV.out]; rfl) (haft ⟨2, .data⟩ (by simp) rfl))
            have q16 : Lf.getD 16 false = false := by
              cases h : Lf.getD 16 false with
              | false => rfl
              | true =>
                have h15 := hat.closed 16 _ h rfl ⟨15, .data⟩ (by simp) rfl
                rw [Dag.off hL] at h15; cases h15
            have hg := hS.g q16
            obtain ⟨c1, z1, hTx, hXx⟩ := HCx.out wx hg
            have y0 := hXx.cell (i := 0) rfl
            have y1 := hXx.cell (i := 1) rfl
            have y2 := hXx.cell (i := 2) rfl
            have hXl2 := hXx.lt
            refine Dag.yields (w' := wx) (.pointer (some ⟨Tb, 1 + j, none⟩)) ?_ ⟨.pointer (some ⟨Tb, 1 + j, none⟩), rfl, hkeep 15 _ (Or.inl (by rw [HPV.out]; rfl)) hL, ?_⟩
            · clear hP hS hat haft hkeep hL hg q16
              generalize b.eval = ρ at *
              go_simp
            · simp only [getD_set_ne false (show 15 ≠ 11 by decide), getD_set_ne false (show 15 ≠ 12 by decide), getD_set_ne false (show 15 ≠ 16 by decide), Dag.turn_other vals (i := 15) (j := 11) _ (by decide), Dag.turn_other vals (i := 15) (j := 12) _ (by decide)]
              exact hS
          | 16, _ =>
            injection ho with ho
            subst ho
            have e40 : b.eval (.tmp 40) = .pointer (some ⟨Tb, 1 + j, none⟩) := (hat.new 15 _ 40 (haft ⟨15, .data⟩ (by simp) rfl) rfl rfl).trans (hP 15 _ (by rw [HPV.out]; rfl) (haft ⟨15, .data⟩ (by simp) rfl))
            have e37 : b.eval (.tmp 37) = vals 12 := hat.new 12 _ 37 (haft ⟨12, .data⟩ (by simp) rfl) rfl rfl
            have l12 : Lf.getD 12 false = true := haft ⟨12, .data⟩ (by simp) rfl
            have lb : Lf.getD 11 false = true := hat.closed 12 _ l12 rfl ⟨11, .data⟩ (by simp) rfl
            rw [lb, l12, Dag.off hL] at hS
            have hg := hS.g rfl
            obtain ⟨c1, z1, hTx, hXx⟩ := HCx.out wx hg
            have y0 := hXx.cell (i := 0) rfl
            have y1 := hXx.cell (i := 1) rfl
            have y2 := hXx.cell (i := 2) rfl
            have hXl2 := hXx.lt
            obtain ⟨gQ, gcQ, hva, _⟩ := hS.c rfl rfl
            have hput := hS.put
            rw [hva] at hput
            have ev := e37.trans hva
            refine Dag.skips (w' := wx.setCell (⟨Tb, 1 + j, none⟩) (.slice (some ⟨gQ, 0, none⟩) (LL + 1) gcQ)) ?_ ⟨_, rfl, hkeep 16 _ (Or.inr (by rw [HPV.out]; rfl)) hL, ?_⟩
            · clear hP hS hat haft hkeep hL hg hput e37 hva
              generalize b.eval = ρ at *
              go_simp
            rw [Dag.on hL]
            simp only [getD_set_ne false (show 16 ≠ 11 by decide), getD_set_ne false (show 16 ≠ 12 by decide), Dag.turn_other vals (i := 16) (j := 11) _ (by decide), Dag.turn_other vals (i := 16) (j := 12) _ (by decide)]
            rw [lb, l12, hva]
            exact hput
          | i + 17, h => exact absurd h (by simp)
        · intro Lf vals wx hall hR
          obtain ⟨hP, hS⟩ := hR
          rw [hall 11 (by simp), hall 12 (by simp), hall 16 (by simp)] at hS
          obtain ⟨w1, hwx, gQ, gcQ, hva, hown, hatg, hgrow⟩ := hS.d rfl
          have hvb := hS.b rfl
          have u0 := hP 0 _ (by rw [HPV.out]; rfl) (hall 0 (by simp))
          have u1 := hP 1 _ (by rw [HPV.out]; rfl) (hall 1 (by simp))
          have u2 := hP 2 _ (by rw [HPV.out]; rfl) (hall 2 (by simp))
          have u3 := hP 3 _ (by rw [HPV.out]; rfl) (hall 3 (by simp))
          have u4 := hP 4 _ (by rw [HPV.out]; rfl) (hall 4 (by simp))
          have u5 := hP 5 _ (by rw [HPV.out]; rfl) (hall 5 (by simp))
          have u6 := hP 6 _ (by rw [HPV.out]; rfl) (hall 6 (by simp))
          have u7 := hP 7 _ (by rw [HPV.out]; rfl) (hall 7 (by simp))
          have u8 := hP 8 _ (by rw [HPV.out]; rfl) (hall 8 (by simp))
          have u9 := hP 9 _ (by rw [HPV.out]; rfl) (hall 9 (by simp))
          have u10 := hP 10 _ (by rw [HPV.out]; rfl) (hall 10 (by simp))
          have u13 := hP 13 _ (by rw [HPV.out]; rfl) (hall 13 (by simp))
          have u14 := hP 14 _ (by rw [HPV.out]; rfl) (hall 14 (by simp))
          have u15 := hP 15 _ (by rw [HPV.out]; rfl) (hall 15 (by simp))
          simp only [Dag.all, List.size_toArray, List.length_cons, List.length_nil, Nat.reduceAdd, List.getElem?_toArray, List.getElem?_cons_zero, List.getElem?_cons_succ, Option.bind_some]
          rw [u0, u1, u2, u3, u4, u5, u6, u7, u8, u9, u10, u13, u14, u15, hvb, hva]
          rw [hva] at hown hwx
          have hsr := HW2.out.pushLate (o := ⟨(j : Int), okd, oi⟩) hj12 hvj HLL.out hown hgrow hatg
          have HSR := box hsr
          rw [hwx]
          clear hP hS hall hown hgrow hatg hwx hvb hva hsr
          go_wp2_with fail
          go_meet
          exact ⟨_, HSR⟩
      case rest =>
        obtain ⟨u, HS5⟩ := hcut
        have HFin := box (HPost.out _ wc rfl ⟨_, _, .late rfl HD.out (by intro e; have h1 := HLL.out; rw [e] at h1; simp at h1; omega), ⟨_, _, _, _, HS5.out.1⟩, HOn2.out.trans HS5.out.2⟩)
        clear HCx HOut HS5
        go_wp2_with fail
        exact bodyPost_end (results_none rfl _ _ _) rfl HFin.out
    · have hL0 : LL = 0 := by omega
      subst hL0
      by_cases hk : 3 ≤ okd
      · have dk : decide ((3 : Int) ≤ okd) = true := decide_eq_true hk
        go_upto_region 5 with (fail)
        obtain ⟨ob, oe, hv12, _, _, _, _⟩ := OpsAt.own HW2.out.out
        obtain ⟨OL, HOL⟩ : ∃ x, Box (s.out.length = x) := ⟨_, ⟨rfl⟩⟩
        rw [HOL.out] at hv12 hsm1
        have hne : (Value.slice ob OL oe).ownBlock ≠ some X := by rw [← hv12]; exact HXr.out 12 (by omega)
        have HOut : Box (V2.ownsRow B 30 3 (.slice ob OL oe) OL (opVals s.out)) := ⟨by
          have h1 : V2.ownsRow B 30 3 (v 12) s.out.length (opVals s.out) := HW2.out.out
          rwa [hv12, HOL.out] at h1⟩
        have HCx : Box (∀ wx : World, V2.grownBy wx (Value.slice ob OL oe).ownBlock → wx.cell? ⟨Tb, 25, none⟩ = some (.slice ob OL oe) ∧ wx.frozen? ⟨Tb, 25, none⟩ = false ∧ Tb < wx.heap.size ∧ Blk wx X 30 [.int .i64 (j : Int), .int .i64 okd, .int .i64 oi]) := ⟨fun wx hg => HW2.out.rowFacts (by omega) hv12 HXb2.out hne hg (by have h1 := HW2.out.cOut; rwa [hv12] at h1)⟩
        have hB2 : B ≤ V2.heap.size := HW2.out.bw
        go_cut [] from 8 to 98 (fun wx => ∃ u, Box (TwoW wx B Tb { s with out := s.out ++ [⟨j, okd, oi⟩] } (upd v 12 u) la lc lo W0 ∧ Only B Tb v (upd v 12 u) V2 wx))
        case first => as_aux_lemma =>
          obtain ⟨PV, HPV⟩ : ∃ PV : Nat → Option Value, Box (PV = fun i => ([some (.pointer (some ⟨Tb, 0, none⟩)), some (.pointer (some ⟨Tb, 0, none⟩)), some (.pointer (some ⟨Tb, 0, none⟩)), some (.pointer (some ⟨Tb, 25, none⟩)), some (.slice ob OL oe), some (.agg #[.int .i64 (j : Int), .int .i64 okd, .int .i64 oi]), none, none, some (.pointer (some ⟨Tb, 0, none⟩)), some (.pointer (some ⟨Tb, 25, none⟩)), none] : List (Option Value)).getD i none) := ⟨_, ⟨rfl⟩⟩
          refine wp_region_dagv (by kernel_rfl) (fun Lf vals wx => (∀ i v, PV i = some v → Lf.getD i false = true → vals i = v) ∧ PutR V2 (.slice ob OL oe) B 30 3 OL (opVals s.out) ⟨Tb, 25, none⟩ [.int .i64 (j : Int), .int .i64 okd, .int .i64 oi] (Lf.getD 6 false) (Lf.getD 7 false) (Lf.getD 10 false) (vals 6) (vals 7) wx) (by kernel_rfl) ?_ ?_ ?_
          · refine ⟨fun i v _ h => absurd h (by simp [Array.getD_eq_getD_getElem?, Array.getElem?_replicate]; try (split <;> simp)), ?_⟩
            simp only [Array.getD_eq_getD_getElem?, Array.getElem?_replicate, List.size_toArray, List.length_cons, List.length_nil, Nat.reduceAdd, Nat.reduceLT, if_true, Option.getD_some]
            exact PutR.start
          · intro i hi o ho Lf vals b wx hat haft hL hR
            obtain ⟨hP, hS⟩ := hR
            have hco := hat.const
            have hkeep : ∀ i v, (PV i = some v ∨ PV i = none) → Lf.getD i true = false → (∀ j u, PV j = some u → (Lf.setIfInBounds i true).getD j false = true → Dag.turn vals i v j = u) := fun i v hv hL j u hu hj => by
              by_cases e : j = i
              · subst e; rw [Dag.turn_same]; rcases hv with hv | hv <;> rw [hv] at hu <;> simp at hu; exact hu
              · rw [Dag.turn_other _ _ e]; rw [getD_set_ne false (Ne.symm e)] at hj; exact hP j u hu hj
            have r0 : b.eval (.tmp 0) = .pointer (some ⟨Tb, 0, none⟩) := hat.old 0 (by
              intro j o' hj
              match j with
              | 0 | 1 | 2 | 3 | 4 | 5 | 6 | 7 | 8 | 9 | 10 => injection hj with hj; subst hj; simp
              | j + 11 => cases hj)
            have r3 : b.eval (.tmp 3) = .pointer (some ⟨X, 0, none⟩) := hat.old 3 (by
              intro j o' hj
              match j with
              | 0 | 1 | 2 | 3 | 4 | 5 | 6 | 7 | 8 | 9 | 10 => injection hj with hj; subst hj; simp
              | j + 11 => cases hj)
            match i, hi with
            | 0, _ =>
              injection ho with ho
              subst ho
              have q10 : Lf.getD 10 false = false := by
                cases h : Lf.getD 10 false with
                | false => rfl
                | true => have := hat.closed 10 _ h rfl ⟨0, .phase⟩ (by simp) rfl; rw [Dag.off hL] at this; cases this
              have hg := hS.g q10
              obtain ⟨c1, z1, hTx, hXx⟩ := HCx.out wx hg
              have y0 := hXx.cell (i := 0) rfl
              have y1 := hXx.cell (i := 1) rfl
              have y2 := hXx.cell (i := 2) rfl
              have hXl2 := hXx.lt
              refine Dag.yields (w' := wx) (.pointer (some ⟨Tb, 0, none⟩)) ?_ ⟨.pointer (some ⟨Tb, 0, none⟩), rfl, hkeep 0 _ (Or.inl (by rw [HPV.out]; rfl)) hL, ?_⟩
              · clear hP hS hat haft hkeep hL hg q10
                generalize b.eval = ρ at *
                go_simp
              · simp only [getD_set_ne false (show 0 ≠ 6 by decide), getD_set_ne false (show 0 ≠ 7 by decide), getD_set_ne false (show 0 ≠ 10 by decide), Dag.turn_other vals (i := 0) (j := 6) _ (by decide), Dag.turn_other vals (i := 0) (j := 7) _ (by decide)]
                exact hS
            | 1, _ =>
              injection ho with ho
              subst ho
              have q10 : Lf.getD 10 false = false := by
                cases h : Lf.getD 10 false with
                | false => rfl
                | true => have := hat.closed 10 _ h rfl ⟨1, .phase⟩ (by simp) rfl; rw [Dag.off hL] at this; cases this
              have hg := hS.g q10
              obtain ⟨c1, z1, hTx, hXx⟩ := HCx.out wx hg
              have y0 := hXx.cell (i := 0) rfl
              have y1 := hXx.cell (i := 1) rfl
              have y2 := hXx.cell (i := 2) rfl
              have hXl2 := hXx.lt
              refine Dag.yields (w' := wx) (.pointer (some ⟨Tb, 0, none⟩)) ?_ ⟨.pointer (some ⟨Tb, 0, none⟩), rfl, hkeep 1 _ (Or.inl (by rw [HPV.out]; rfl)) hL, ?_⟩
              · clear hP hS hat haft hkeep hL hg q10
                generalize b.eval = ρ at *
                go_simp
              · simp only [getD_set_ne false (show 1 ≠ 6 by decide), getD_set_ne false (show 1 ≠ 7 by decide), getD_set_ne false (show 1 ≠ 10 by decide), Dag.turn_other vals (i := 1) (j := 6) _ (by decide), Dag.turn_other vals (i := 1) (j := 7) _ (by decide)]
                exact hS
            | 2, _ =>
              injection ho with ho
              subst ho
              have e46 : b.eval (.tmp 46) = .pointer (some ⟨Tb, 0, none⟩) := (hat.new 1 _ 46 (haft ⟨1, .data⟩ (by simp) rfl) rfl rfl).trans (hP 1 _ (by rw [HPV.out]; rfl) (haft ⟨1, .data⟩ (by simp) rfl))
              have q10 : Lf.getD 10 false = false := by
                cases h : Lf.getD 10 false with
                | false => rfl
                | true => have := hat.closed 10 _ h rfl ⟨2, .phase⟩ (by simp) rfl; rw [Dag.off hL] at this; cases this
              have hg := hS.g q10
              obtain ⟨c1, z1, hTx, hXx⟩ := HCx.out wx hg
              have y0 := hXx.cell (i := 0) rfl
              have y1 := hXx.cell (i := 1) rfl
              have y2 := hXx.cell (i := 2) rfl
              have hXl2 := hXx.lt
              refine Dag.yields (w' := wx) (.pointer (some ⟨Tb, 0, none⟩)) ?_ ⟨.pointer (some ⟨Tb, 0, none⟩), rfl, hkeep 2 _ (Or.inl (by rw [HPV.out]; rfl)) hL, ?_⟩
              · clear hP hS hat haft hkeep hL hg q10
                generalize b.eval = ρ at *
                go_simp
              · simp only [getD_set_ne false (show 2 ≠ 6 by decide), getD_set_ne false (show 2 ≠ 7 by decide), getD_set_ne false (show 2 ≠ 10 by decide), Dag.turn_other vals (i := 2) (j := 6) _ (by decide), Dag.turn_other vals (i := 2) (j := 7) _ (by decide)]
                exact hS
            | 3, _ =>
              injection ho with ho
              subst ho
              have e47 : b.eval (.tmp 47) = .pointer (some ⟨Tb, 0, none⟩) := (hat.new 2 _ 47 (haft ⟨2, .data⟩ (by simp) rfl) rfl rfl).trans (hP 2 _ (by rw [HPV.out]; rfl) (haft ⟨2, .data⟩ (by simp) rfl))
              have q10 : Lf.getD 10 false = false := by
                cases h : Lf.getD 10 false with
                | false => rfl
                | true => have := hat.closed 10 _ h rfl ⟨3, .phase⟩ (by simp) rfl; rw [Dag.off hL] at this; cases this
              have hg := hS.g q10
              obtain ⟨c1, z1, hTx, hXx⟩ := HCx.out wx hg
              have y0 := hXx.cell (i := 0) rfl
              have y1 := hXx.cell (i := 1) rfl
              have y2 := hXx.cell (i := 2) rfl
              have hXl2 := hXx.lt
              refine Dag.yields (w' := wx) (.pointer (some ⟨Tb, 25, none⟩)) ?_ ⟨.pointer (some ⟨Tb, 25, none⟩), rfl, hkeep 3 _ (Or.inl (by rw [HPV.out]; rfl)) hL, ?_⟩
              · clear hP hS hat haft hkeep hL hg q10
                generalize b.eval = ρ at *
                go_simp
              · simp only [getD_set_ne false (show 3 ≠ 6 by decide), getD_set_ne false (show 3 ≠ 7 by decide), getD_set_ne false (show 3 ≠ 10 by decide), Dag.turn_other vals (i := 3) (j := 6) _ (by decide), Dag.turn_other vals (i := 3) (j := 7) _ (by decide)]
                exact hS
            | 4, _ =>
              injection ho with ho
              subst ho
              have e48 : b.eval (.tmp 48) = .pointer (some ⟨Tb, 25, none⟩) := (hat.new 3 _ 48 (haft ⟨3, .data⟩ (by simp) rfl) rfl rfl).trans (hP 3 _ (by rw [HPV.out]; rfl) (haft ⟨3, .data⟩ (by simp) rfl))
              have q10 : Lf.getD 10 false = false := by
                cases h : Lf.getD 10 false with
                | false => rfl
                | true => have := hat.closed 10 _ h rfl ⟨4, .phase⟩ (by simp) rfl; rw [Dag.off hL] at this; cases this
              have hg := hS.g q10
              obtain ⟨c1, z1, hTx, hXx⟩ := HCx.out wx hg
              have y0 := hXx.cell (i := 0) rfl
              have y1 := hXx.cell (i := 1) rfl
              have y2 := hXx.cell (i := 2) rfl
              have hXl2 := hXx.lt
              refine Dag.yields (w' := wx) (.slice ob OL oe) ?_ ⟨.slice ob OL oe, rfl, hkeep 4 _ (Or.inl (by rw [HPV.out]; rfl)) hL, ?_⟩
              · clear hP hS hat haft hkeep hL hg q10
                generalize b.eval = ρ at *
                go_simp
              · simp only [getD_set_ne false (show 4 ≠ 6 by decide), getD_set_ne false (show 4 ≠ 7 by decide), getD_set_ne false (show 4 ≠ 10 by decide), Dag.turn_other vals (i := 4) (j := 6) _ (by decide), Dag.turn_other vals (i := 4) (j := 7) _ (by decide)]
                exact hS
            | 5, _ =>
              injection ho with ho
              subst ho
              have q10 : Lf.getD 10 false = false := by
                cases h : Lf.getD 10 false with
                | false => rfl
                | true => have := hat.closed 10 _ h rfl ⟨5, .phase⟩ (by simp) rfl; rw [Dag.off hL] at this; cases this
              have hg := hS.g q10
              obtain ⟨c1, z1, hTx, hXx⟩ := HCx.out wx hg
              have y0 := hXx.cell (i := 0) rfl
              have y1 := hXx.cell (i := 1) rfl
              have y2 := hXx.cell (i := 2) rfl
              have hXl2 := hXx.lt
              refine Dag.yields (w' := wx) (.agg #[.int .i64 (j : Int), .int .i64 okd, .int .i64 oi]) ?_ ⟨.agg #[.int .i64 (j : Int), .int .i64 okd, .int .i64 oi], rfl, hkeep 5 _ (Or.inl (by rw [HPV.out]; rfl)) hL, ?_⟩
              · clear hP hS hat haft hkeep hL hg q10
                generalize b.eval = ρ at *
                go_simp
              · simp only [getD_set_ne false (show 5 ≠ 6 by decide), getD_set_ne false (show 5 ≠ 7 by decide), getD_set_ne false (show 5 ≠ 10 by decide), Dag.turn_other vals (i := 5) (j := 6) _ (by decide), Dag.turn_other vals (i := 5) (j := 7) _ (by decide)]
                exact hS
            | 6, _ =>
              injection ho with ho
              subst ho
              have e50 : b.eval (.tmp 50) = .agg #[.int .i64 (j : Int), .int .i64 okd, .int .i64 oi] := (hat.new 5 _ 50 (haft ⟨5, .data⟩ (by simp) rfl) rfl rfl).trans (hP 5 _ (by rw [HPV.out]; rfl) (haft ⟨5, .data⟩ (by simp) rfl))
              have q10 : Lf.getD 10 false = false := by
                cases h : Lf.getD 10 false with
                | false => rfl
                | true => have := hat.closed 10 _ h rfl ⟨6, .phase⟩ (by simp) rfl; rw [Dag.off hL] at this; cases this
              have hg := hS.g q10
              obtain ⟨c1, z1, hTx, hXx⟩ := HCx.out wx hg
              have y0 := hXx.cell (i := 0) rfl
              have y1 := hXx.cell (i := 1) rfl
              have y2 := hXx.cell (i := 2) rfl
              have hXl2 := hXx.lt
              have q7 : Lf.getD 7 false = false := by
                cases h : Lf.getD 7 false with
                | false => rfl
                | true => have := hat.closed 7 _ h rfl ⟨6, .data⟩ (by simp) rfl; rw [Dag.off hL] at this; cases this
              rw [q7, q10, Dag.off hL] at hS
              refine Dag.yields (w' := wx.alloc (.cells #[.int .i64 (j : Int), .int .i64 okd, .int .i64 oi] 30)) (.slice (some ⟨wx.heap.size, 0, none⟩) 1 1) ?_ ⟨_, rfl, hkeep 6 _ (Or.inr (by rw [HPV.out]; rfl)) hL, ?_⟩
              · clear hP hS hat haft hkeep hL hg
                generalize b.eval = ρ at *
                go_simp
              rw [Dag.on hL]
              simp only [getD_set_ne false (show 6 ≠ 7 by decide), getD_set_ne false (show 6 ≠ 10 by decide), Dag.turn_same, Dag.turn_other vals (i := 6) (j := 7) _ (by decide)]
              rw [q7, q10]
              exact hS.lay
            | 7, _ =>
              injection ho with ho
              subst ho
              have e49 : b.eval (.tmp 49) = .slice ob OL oe := (hat.new 4 _ 49 (haft ⟨4, .data⟩ (by simp) rfl) rfl rfl).trans (hP 4 _ (by rw [HPV.out]; rfl) (haft ⟨4, .data⟩ (by simp) rfl))
              have e51 : b.eval (.tmp 51) = vals 6 := hat.new 6 _ 51 (haft ⟨6, .data⟩ (by simp) rfl) rfl rfl
              have l6 : Lf.getD 6 false = true := haft ⟨6, .data⟩ (by simp) rfl
              have q10 : Lf.getD 10 false = false := by
                cases h : Lf.getD 10 false with
                | false => rfl
                | true => have := hat.closed 10 _ h rfl ⟨7, .phase⟩ (by simp) rfl; rw [Dag.off hL] at this; cases this
              have hg := hS.g q10
              obtain ⟨c1, z1, hTx, hXx⟩ := HCx.out wx hg
              have y0 := hXx.cell (i := 0) rfl
              have y1 := hXx.cell (i := 1) rfl
              have y2 := hXx.cell (i := 2) rfl
              have hXl2 := hXx.lt
              rw [l6, q10, Dag.off hL] at hS
              have hbl := hS.a rfl rfl
              have hown := ownsRow_below (HOut.out) hbl
              have hvb := hS.b rfl
              have hkb := hS.k rfl rfl rfl
              have hsz := hbl.size
              refine wp_append_lies wx _ _ 22 rfl (B) 30 i0 _ 3 24 Try.underlying22 hi0 hz0 hz1 hz2 rfl (by decide) (.slice ob OL oe) (OL) (opVals s.out) e49 hown ⟨_, 0, none⟩ 1 1 [.int .i64 (j : Int), .int .i64 okd, .int .i64 oi] (e51.trans hvb) rfl (World.news_of_block (cs := #[.int .i64 (j : Int), .int .i64 okd, .int .i64 oi]) (t := 30) (fr := (0, 0)) hkb) (by simp [Value.oneCell']) (by omega) (by unfold maxLen; omega) (by omega) (by have := hsz; omega) _ rfl ?_
              intro gQ gcQ w'' hown2 hgrow hatg hltg
              refine ⟨_, rfl, hkeep 7 _ (Or.inr (by rw [HPV.out]; rfl)) hL, ?_⟩
              rw [Dag.on hL]
              simp only [getD_set_ne false (show 7 ≠ 6 by decide), getD_set_ne false (show 7 ≠ 10 by decide), Dag.turn_same, Dag.turn_other vals (i := 7) (j := 6) _ (by decide)]
              rw [l6, q10]
              exact hS.app hown2 hgrow hatg
            | 8, _ =>
              injection ho with ho
              subst ho
              have e45 : b.eval (.tmp 45) = .pointer (some ⟨Tb, 0, none⟩) := (hat.new 0 _ 45 (haft ⟨0, .data⟩ (by simp) rfl) rfl rfl).trans (hP 0 _ (by rw [HPV.out]; rfl) (haft ⟨0, .data⟩ (by simp) rfl))
              have q10 : Lf.getD 10 false = false := by
                cases h : Lf.getD 10 false with
                | false => rfl
                | true =>
                  have h9 := hat.closed 10 _ h rfl ⟨9, .data⟩ (by simp) rfl
                  have h8 := hat.closed 9 _ h9 rfl ⟨8, .data⟩ (by simp) rfl
                  rw [Dag.off hL] at h8; cases h8
              have hg := hS.g q10
              obtain ⟨c1, z1, hTx, hXx⟩ := HCx.out wx hg
              have y0 := hXx.cell (i := 0) rfl
              have y1 := hXx.cell (i := 1) rfl
              have y2 := hXx.cell (i := 2) rfl
              have hXl2 := hXx.lt
              refine Dag.yields (w' := wx) (.pointer (some ⟨Tb, 0, none⟩)) ?_ ⟨.pointer (some ⟨Tb, 0, none⟩), rfl, hkeep 8 _ (Or.inl (by rw [HPV.out]; rfl)) hL, ?_⟩
              · clear hP hS hat haft hkeep hL hg q10
                generalize b.eval = ρ at *
                go_simp
              · simp only [getD_set_ne false (show 8 ≠ 6 by decide), getD_set_ne false (show 8 ≠ 7 by decide), getD_set_ne false (show 8 ≠ 10 by decide), Dag.turn_other vals (i := 8) (j := 6) _ (by decide), Dag.turn_other vals (i := 8) (j := 7) _ (by decide)]
                exact hS
            | 9, _ =>
              injection ho with ho
              subst ho
              have e53 : b.eval (.tmp 53) = .pointer (some ⟨Tb, 0, none⟩) := (hat.new 8 _ 53 (haft ⟨8, .data⟩ (by simp) rfl) rfl rfl).trans (hP 8 _ (by rw [HPV.out]; rfl) (haft ⟨8, .data⟩ (by simp) rfl))
              have q10 : Lf.getD 10 false = false := by
                cases h : Lf.getD 10 false with
                | false => rfl
                | true =>
                  have h9 := hat.closed 10 _ h rfl ⟨9, .data⟩ (by simp) rfl
                  rw [Dag.off hL] at h9; cases h9
              have hg := hS.g q10
              obtain ⟨c1, z1, hTx, hXx⟩ := HCx.out wx hg
              have y0 := hXx.cell (i := 0) rfl
              have y1 := hXx.cell (i := 1) rfl
              have y2 := hXx.cell (i := 2) rfl
              have hXl2 := hXx.lt
              refine Dag.yields (w' := wx) (.pointer (some ⟨Tb, 25, none⟩)) ?_ ⟨.pointer (some ⟨Tb, 25, none⟩), rfl, hkeep 9 _ (Or.inl (by rw [HPV.out]; rfl)) hL, ?_⟩
              · clear hP hS hat haft hkeep hL hg q10
                generalize b.eval = ρ at *
                go_simp
              · simp only [getD_set_ne false (show 9 ≠ 6 by decide), getD_set_ne false (show 9 ≠ 7 by decide), getD_set_ne false (show 9 ≠ 10 by decide), Dag.turn_other vals (i := 9) (j := 6) _ (by decide), Dag.turn_other vals (i := 9) (j := 7) _ (by decide)]
                exact hS
            | 10, _ =>
              injection ho with ho
              subst ho
              have e54 : b.eval (.tmp 54) = .pointer (some ⟨Tb, 25, none⟩) := (hat.new 9 _ 54 (haft ⟨9, .data⟩ (by simp) rfl) rfl rfl).trans (hP 9 _ (by rw [HPV.out]; rfl) (haft ⟨9, .data⟩ (by simp) rfl))
              have e52 : b.eval (.tmp 52) = vals 7 := hat.new 7 _ 52 (haft ⟨7, .data⟩ (by simp) rfl) rfl rfl
              have l7 : Lf.getD 7 false = true := haft ⟨7, .data⟩ (by simp) rfl
              have lb : Lf.getD 6 false = true := hat.closed 7 _ l7 rfl ⟨6, .data⟩ (by simp) rfl
              rw [lb, l7, Dag.off hL] at hS
              have hg := hS.g rfl
              obtain ⟨c1, z1, hTx, hXx⟩ := HCx.out wx hg
              have y0 := hXx.cell (i := 0) rfl
              have y1 := hXx.cell (i := 1) rfl
              have y2 := hXx.cell (i := 2) rfl
              have hXl2 := hXx.lt
              obtain ⟨gQ, gcQ, hva, _⟩ := hS.c rfl rfl
              have hput := hS.put
              rw [hva] at hput
              have ev := e52.trans hva
              refine Dag.skips (w' := wx.setCell (⟨Tb, 25, none⟩) (.slice (some ⟨gQ, 0, none⟩) (OL + 1) gcQ)) ?_ ⟨_, rfl, hkeep 10 _ (Or.inr (by rw [HPV.out]; rfl)) hL, ?_⟩
              · clear hP hS hat haft hkeep hL hg hput e52 hva
                generalize b.eval = ρ at *
                go_simp
              rw [Dag.on hL]
              simp only [getD_set_ne false (show 10 ≠ 6 by decide), getD_set_ne false (show 10 ≠ 7 by decide), Dag.turn_other vals (i := 10) (j := 6) _ (by decide), Dag.turn_other vals (i := 10) (j := 7) _ (by decide)]
              rw [lb, l7, hva]
              exact hput
            | i + 11, h => exact absurd h (by simp)
          · intro Lf vals wx hall hR
            obtain ⟨hP, hS⟩ := hR
            rw [hall 6 (by simp), hall 7 (by simp), hall 10 (by simp)] at hS
            obtain ⟨w1, hwx, gQ, gcQ, hva, hown, hatg, hgrow⟩ := hS.d rfl
            have hvb := hS.b rfl
            have u0 := hP 0 _ (by rw [HPV.out]; rfl) (hall 0 (by simp))
            have u1 := hP 1 _ (by rw [HPV.out]; rfl) (hall 1 (by simp))
            have u2 := hP 2 _ (by rw [HPV.out]; rfl) (hall 2 (by simp))
            have u3 := hP 3 _ (by rw [HPV.out]; rfl) (hall 3 (by simp))
            have u4 := hP 4 _ (by rw [HPV.out]; rfl) (hall 4 (by simp))
            have u5 := hP 5 _ (by rw [HPV.out]; rfl) (hall 5 (by simp))
            have u8 := hP 8 _ (by rw [HPV.out]; rfl) (hall 8 (by simp))
            have u9 := hP 9 _ (by rw [HPV.out]; rfl) (hall 9 (by simp))
            simp only [Dag.all, List.size_toArray, List.length_cons, List.length_nil, Nat.reduceAdd, List.getElem?_toArray, List.getElem?_cons_zero, List.getElem?_cons_succ, Option.bind_some]
            rw [u0, u1, u2, u3, u4, u5, u8, u9, hvb, hva]
            rw [hva] at hown hwx
            have hsr := HW2.out.pushOut (o := ⟨(j : Int), okd, oi⟩) hv12 HOL.out hown hgrow hatg
            have HSR := box hsr
            rw [hwx]
            clear hP hS hall hown hgrow hatg hwx hvb hva hsr
            go_wp2_with fail
            go_meet
            exact ⟨_, HSR⟩
        case rest =>
          obtain ⟨u, HS5⟩ := hcut
          have hl0 : s.late j = [] := List.eq_nil_of_length_eq_zero HLL.out
          have hkX := (HS5.out.2.keeps hXl hXT HXr.out).1
          have y0 := (World.cell?_of_block (a := ⟨X, 0, none⟩) hkX).trans x0
          have HCall := box (HDr.out B Tb wc { s with out := s.out ++ [⟨j, okd, oi⟩] } _ j G p h ⟨_, _, _, _, HS5.out.1⟩ HI.out.good hj12 (HI.out.ends rfl HD.out hl0 hk) HTo.out (by show lates s ≤ m; omega))
          have HFin : Box (∀ s3 v3 w6, Drops { s with out := s.out ++ [⟨j, okd, oi⟩] } j s3 → At w6 B Tb s3 v3 → Only B Tb (upd v 12 u) v3 wc w6 → PP (.returned (.tuple #[])) w6) := ⟨fun s3 v3 w6 k1 k2 k3 => HPost.out _ w6 rfl ⟨s3, v3, .ends rfl HD.out hl0 hk k1, k2, (HOn2.out.trans HS5.out.2).trans k3⟩⟩
          clear HCx HOut HS5 hkX x0 x1 x2
          go_wp2_with fail
          refine HCall.out.mono ?_
          rintro e w6 ⟨rfl, s3, v3, k1, k2, k3⟩
          have HF2 := box (HFin.out s3 v3 w6 k1 k2 k3)
          go_wp2_with fail
          exact bodyPost_end (results_none rfl _ _ _) rfl HF2.out
      · have dk : decide ((3 : Int) ≤ okd) = false := decide_eq_false hk
        go_upto_region 7 with (fail)
        have hl0 : s.late j = [] := List.eq_nil_of_length_eq_zero HLL.out
        have hk3 : okd < 3 := by omega
        have HAskE : Box (LkM.askE s.locks (j : Int) oi (TwoM.mode ⟨j, okd, oi⟩) = 0) := ⟨by
          have hbz := RunM.bad_zero HBad.out
          dsimp only at hbz
          unfold LkM.askE
          rw [if_neg (by rw [LkM.check_iff.2 HI.out.good]; simp), if_neg (by rcases TwoM.mode_two ⟨j, okd, oi⟩ with e | e <;> rw [e] <;> omega), if_neg (by rw [not_waiting HI.out hl0]; decide)]⟩
        obtain ⟨TL, HTL⟩ : ∃ x, Box (s.locks.length = x) := ⟨_, ⟨rfl⟩⟩
        obtain ⟨t2, Ht2⟩ : ∃ x, Box ((LkM.askIn oi ⟨j, TwoM.mode ⟨j, okd, oi⟩⟩ s.locks).1 = x) := ⟨_, ⟨rfl⟩⟩
        obtain ⟨bb, Hbb⟩ : ∃ x, Box ((LkM.askIn oi ⟨j, TwoM.mode ⟨j, okd, oi⟩⟩ s.locks).2 = x) := ⟨_, ⟨rfl⟩⟩
        obtain ⟨T2, HT2⟩ : ∃ x, Box (t2.length = x) := ⟨_, ⟨rfl⟩⟩
        have HAs : Box (∀ W, Below V2.heap.size V2 W → Calls Try.prog 18 #[.slice la TL lc, .int .i64 (j : Int), .int .i64 oi, .int .i64 (TwoM.mode ⟨j, okd, oi⟩)] W fun e w' => Below W.heap.size W w' ∧ ∃ ta tc, e = .returned (.tuple #[.slice ta T2 tc, .bool bb, .int .i64 0]) ∧ LisIn w' W.heap.size ta t2) := ⟨fun W hb => by
          have h1 := ask_any s.locks la lc lo (j : Int) oi (TwoM.mode ⟨j, okd, oi⟩) W (HW2.out.after hb).locks HI.out.good.small
          rw [HTL.out] at h1
          refine h1.mono ?_
          rintro e w' ⟨h2, ⟨h3, _⟩ | ⟨_, ta, tc, h4, h5⟩⟩
          · exact absurd HAskE.out h3
          · rw [Ht2.out, HT2.out, Hbb.out] at h4
            rw [Ht2.out] at h5
            exact ⟨h2, ta, tc, h4, h5⟩⟩
        obtain ⟨md, Hmd⟩ : ∃ x, Box (TwoM.mode ⟨(j : Int), okd, oi⟩ = x) := ⟨_, ⟨rfl⟩⟩
        have HMd := box (fun W => mode_any (j : Int) okd oi W)
        rw [Hmd.out] at HAs HMd
        have c0 : V2.cell? ⟨Tb, 0, none⟩ = some (.slice la TL lc) := by have := HW2.out.cLocks; rwa [HTL.out] at this
        have HSp : Box (∀ W, Below V2.heap.size V2 W → W.cell? ⟨Tb, 0, none⟩ = some (.slice la TL lc) ∧ W.cell? ⟨X, 0, none⟩ = some (.int .i64 (j : Int)) ∧ W.cell? ⟨X, 1, none⟩ = some (.int .i64 okd) ∧ W.cell? ⟨X, 2, none⟩ = some (.int .i64 oi)) := ⟨fun W hb => ⟨(World.cell?_of_block (a := ⟨Tb, 0, none⟩) (hb.block Tb hTl)).trans c0, (World.cell?_of_block (a := ⟨X, 0, none⟩) (hb.block X hXl)).trans x0, (World.cell?_of_block (a := ⟨X, 1, none⟩) (hb.block X hXl)).trans x1, (World.cell?_of_block (a := ⟨X, 2, none⟩) (hb.block X hXl)).trans x2⟩⟩
        go_region_held3 (fun w' => w'.cell? ⟨Tb, 0, none⟩ = some (.slice la TL lc) ∧ w'.cell? ⟨X, 0, none⟩ = some (.int .i64 (j : Int)) ∧ w'.cell? ⟨X, 1, none⟩ = some (.int .i64 okd) ∧ w'.cell? ⟨X, 2, none⟩ = some (.int .i64 oi)) (first | exact ⟨c0, x0, x1, x2⟩ | assumption)
          (first
            | (go_at_call 19; refine (HMd.out _).mono ?_; rintro e w3 ⟨rfl, hb3⟩; have HB3 := box (below_tr (Below.refl _ V2).drew hb3); have hh3 := HSp.out w3 HB3.out; clear hb3)
            | (go_at_call 18; refine (HAs.out _ HB3.out).mono ?_; rintro e w4 ⟨hb4, ta, tc, rfl, hl4⟩; have HA4 := box (And.intro hb4 hl4); have hh4 := HSp.out w4 (below_tr HB3.out hb4); clear hb4 hl4)
            | fail)
        have HS8 := box ((HW2.out.after HB3.out).setLocks (lc' := tc) HA4.out.1 HA4.out.2)
        rw [HT2.out] at HS8
        have HXb8 := box (((HXb2.out.after HB3.out).after HA4.out.1).other (p := ⟨Tb, 0, none⟩) hXT (.slice ta T2 tc))
        have HO8 : Box (Only B Tb v v w (w4.setCell ⟨Tb, 0, none⟩ (.slice ta T2 tc))) := ⟨(HOn2.out.after HB3.out HW2.out.bw).trans HS8.out.2⟩
        have z8 := ((HW2.out.after HB3.out).after HA4.out.1).blk.frozen 0
        have hT8 := ((HW2.out.after HB3.out).after HA4.out.1).tlt
        have c8 := hh4.1
        go_upto_region 9 with (fail)
        obtain ⟨V8, HV8⟩ : ∃ x, Box (w4.setCell ⟨Tb, 0, none⟩ (.slice ta T2 tc) = x) := ⟨_, ⟨rfl⟩⟩
        rw [HV8.out] at HS8 HXb8 HO8 ⊢
        have HW8 := box HS8.out.1
        clear HS8 HW2 HXb2 HOn2 hh3 hh4 c8 z8 hT8 c0 x0 x1 x2 hXl hTl HSp HAs HMd HA4
        have x0 := HXb8.out.cell (i := 0) rfl
        have x1 := HXb8.out.cell (i := 1) rfl
        have x2 := HXb8.out.cell (i := 2) rfl
        have hXl := HXb8.out.lt
        have hTl := HW8.out.tlt
        cases bb with
        | true =>
          go_upto_region 10 with (fail)
          obtain ⟨ob, oe, hv12, _, _, _, _⟩ := OpsAt.own HW8.out.out
          obtain ⟨OL, HOL⟩ : ∃ x, Box (s.out.length = x) := ⟨_, ⟨rfl⟩⟩
          replace hv12 : v 12 = .slice ob s.out.length oe := hv12
          rw [HOL.out] at hv12 hsm1
          have hne : (Value.slice ob OL oe).ownBlock ≠ some X := by rw [← hv12]; exact HXr.out 12 (by omega)
          have HOut : Box (V8.ownsRow B 30 3 (.slice ob OL oe) OL (opVals s.out)) := ⟨by
            have h1 : V8.ownsRow B 30 3 (v 12) s.out.length (opVals s.out) := HW8.out.out
            rwa [hv12, HOL.out] at h1⟩
          have HCx : Box (∀ wx : World, V8.grownBy wx (Value.slice ob OL oe).ownBlock → wx.cell? ⟨Tb, 25, none⟩ = some (.slice ob OL oe) ∧ wx.frozen? ⟨Tb, 25, none⟩ = false ∧ Tb < wx.heap.size ∧ Blk wx X 30 [.int .i64 (j : Int), .int .i64 okd, .int .i64 oi]) := ⟨fun wx hg => HW8.out.rowFacts (by omega) hv12 HXb8.out hne hg (by have h1 := HW8.out.cOut; rwa [hv12] at h1)⟩
          have hB2 : B ≤ V8.heap.size := HW8.out.bw
          go_cut [] from 8 to 98 (fun wx => ∃ u, Box (TwoW wx B Tb { s with locks := t2, out := s.out ++ [⟨j, okd, oi⟩] } (upd v 12 u) ta tc w3.heap.size w4 ∧ Only B Tb v (upd v 12 u) V8 wx))
          case first => as_aux_lemma =>
            obtain ⟨PV, HPV⟩ : ∃ PV : Nat → Option Value, Box (PV = fun i => ([some (.pointer (some ⟨Tb, 0, none⟩)), some (.pointer (some ⟨Tb, 0, none⟩)), some (.pointer (some ⟨Tb, 0, none⟩)), some (.pointer (some ⟨Tb, 25, none⟩)), some (.slice ob OL oe), some (.agg #[.int .i64 (j : Int), .int .i64 okd, .int .i64 oi]), none, none, some (.pointer (some ⟨Tb, 0, none⟩)), some (.pointer (some ⟨Tb, 25, none⟩)), none] : List (Option Value)).getD i none) := ⟨_, ⟨rfl⟩⟩
            refine wp_region_dagv (by kernel_rfl) (fun Lf vals wx => (∀ i v, PV i = some v → Lf.getD i false = true → vals i = v) ∧ PutR V8 (.slice ob OL oe) B 30 3 OL (opVals s.out) ⟨Tb, 25, none⟩ [.int .i64 (j : Int), .int .i64 okd, .int .i64 oi] (Lf.getD 6 false) (Lf.getD 7 false) (Lf.getD 10 false) (vals 6) (vals 7) wx) (by kernel_rfl) ?_ ?_ ?_
            · refine ⟨fun i v _ h => absurd h (by simp [Array.getD_eq_getD_getElem?, Array.getElem?_replicate]; try (split <;> simp)), ?_⟩
              simp only [Array.getD_eq_getD_getElem?, Array.getElem?_replicate, List.size_toArray, List.length_cons, List.length_nil, Nat.reduceAdd, Nat.reduceLT, if_true, Option.getD_some]
              exact PutR.start
            · intro i hi o ho Lf vals b wx hat haft hL hR
              obtain ⟨hP, hS⟩ := hR
              have hco := hat.const
              have hkeep : ∀ i v, (PV i = some v ∨ PV i = none) → Lf.getD i true = false → (∀ j u, PV j = some u → (Lf.setIfInBounds i true).getD j false = true → Dag.turn vals i v j = u) := fun i v hv hL j u hu hj => by
                by_cases e : j = i
                · subst e; rw [Dag.turn_same]; rcases hv with hv | hv <;> rw [hv] at hu <;> simp at hu; exact hu
                · rw [Dag.turn_other _ _ e]; rw [getD_set_ne false (Ne.symm e)] at hj; exact hP j u hu hj
              have r0 : b.eval (.tmp 0) = .pointer (some ⟨Tb, 0, none⟩) := hat.old 0 (by
                intro j o' hj
                match j with
                | 0 | 1 | 2 | 3 | 4 | 5 | 6 | 7 | 8 | 9 | 10 => injection hj with hj; subst hj; simp
                | j + 11 => cases hj)
              have r3 : b.eval (.tmp 3) = .pointer (some ⟨X, 0, none⟩) := hat.old 3 (by
                intro j o' hj
                match j with
                | 0 | 1 | 2 | 3 | 4 | 5 | 6 | 7 | 8 | 9 | 10 => injection hj with hj; subst hj; simp
                | j + 11 => cases hj)
              match i, hi with
              | 0, _ =>
                injection ho with ho
                subst ho
                have q10 : Lf.getD 10 false = false := by
                  cases h : Lf.getD 10 false with
                  | false => rfl
                  | true => have := hat.closed 10 _ h rfl ⟨0, .phase⟩ (by simp) rfl; rw [Dag.off hL] at this; cases this
                have hg := hS.g q10
                obtain ⟨c1, z1, hTx, hXx⟩ := HCx.out wx hg
                have y0 := hXx.cell (i := 0) rfl
                have y1 := hXx.cell (i := 1) rfl
                have y2 := hXx.cell (i := 2) rfl
                have hXl2 := hXx.lt
                refine Dag.yields (w' := wx) (.pointer (some ⟨Tb, 0, none⟩)) ?_ ⟨.pointer (some ⟨Tb, 0, none⟩), rfl, hkeep 0 _ (Or.inl (by rw [HPV.out]; rfl)) hL, ?_⟩
                · clear hP hS hat haft hkeep hL hg q10
                  generalize b.eval = ρ at *
                  go_simp
                · simp only [getD_set_ne false (show 0 ≠ 6 by decide), getD_set_ne false (show 0 ≠ 7 by decide), getD_set_ne false (show 0 ≠ 10 by decide), Dag.turn_other vals (i := 0) (j := 6) _ (by decide), Dag.turn_other vals (i := 0) (j := 7) _ (by decide)]
                  exact hS
              | 1, _ =>
                injection ho with ho
                subst ho
                have q10 : Lf.getD 10 false = false := by
                  cases h : Lf.getD 10 false with
                  | false => rfl
                  | true => have := hat.closed 10 _ h rfl ⟨1, .phase⟩ (by simp) rfl; rw [Dag.off hL] at this; cases this
                have hg := hS.g q10
                obtain ⟨c1, z1, hTx, hXx⟩ := HCx.out wx hg
                have y0 := hXx.cell (i := 0) rfl
                have y1 := hXx.cell (i := 1) rfl
                have y2 := hXx.cell (i := 2) rfl
                have hXl2 := hXx.lt
                refine Dag.yields (w' := wx) (.pointer (some ⟨Tb, 0, none⟩)) ?_ ⟨.pointer (some ⟨Tb, 0, none⟩), rfl, hkeep 1 _ (Or.inl (by rw [HPV.out]; rfl)) hL, ?_⟩
                · clear hP hS hat haft hkeep hL hg q10
                  generalize b.eval = ρ at *
                  go_simp
                · simp only [getD_set_ne false (show 1 ≠ 6 by decide), getD_set_ne false (show 1 ≠ 7 by decide), getD_set_ne false (show 1 ≠ 10 by decide), Dag.turn_other vals (i := 1) (j := 6) _ (by decide), Dag.turn_other vals (i := 1) (j := 7) _ (by decide)]
                  exact hS
              | 2, _ =>
                injection ho with ho
                subst ho
                have e80 : b.eval (.tmp 80) = .pointer (some ⟨Tb, 0, none⟩) := (hat.new 1 _ 80 (haft ⟨1, .data⟩ (by simp) rfl) rfl rfl).trans (hP 1 _ (by rw [HPV.out]; rfl) (haft ⟨1, .data⟩ (by simp) rfl))
                have q10 : Lf.getD 10 false = false := by
                  cases h : Lf.getD 10 false with
                  | false => rfl
                  | true => have := hat.closed 10 _ h rfl ⟨2, .phase⟩ (by simp) rfl; rw [Dag.off hL] at this; cases this
                have hg := hS.g q10
                obtain ⟨c1, z1, hTx, hXx⟩ := HCx.out wx hg
                have y0 := hXx.cell (i := 0) rfl
                have y1 := hXx.cell (i := 1) rfl
                have y2 := hXx.cell (i := 2) rfl
                have hXl2 := hXx.lt
                refine Dag.yields (w' := wx) (.pointer (some ⟨Tb, 0, none⟩)) ?_ ⟨.pointer (some ⟨Tb, 0, none⟩), rfl, hkeep 2 _ (Or.inl (by rw [HPV.out]; rfl)) hL, ?_⟩
                · clear hP hS hat haft hkeep hL hg q10
                  generalize b.eval = ρ at *
                  go_simp
                · simp only [getD_set_ne false (show 2 ≠ 6 by decide), getD_set_ne false (show 2 ≠ 7 by decide), getD_set_ne false (show 2 ≠ 10 by decide), Dag.turn_other vals (i := 2) (j := 6) _ (by decide), Dag.turn_other vals (i := 2) (j := 7) _ (by decide)]
                  exact hS
              | 3, _ =>
                injection ho with ho
                subst ho
                have e81 : b.eval (.tmp 81) = .pointer (some ⟨Tb, 0, none⟩) := (hat.new 2 _ 81 (haft ⟨2, .data⟩ (by simp) rfl) rfl rfl).trans (hP 2 _ (by rw [HPV.out]; rfl) (haft ⟨2, .data⟩ (by simp) rfl))
                have q10 : Lf.getD 10 false = false := by
                  cases h : Lf.getD 10 false with
                  | false => rfl
                  | true => have := hat.closed 10 _ h rfl ⟨3, .phase⟩ (by simp) rfl; rw [Dag.off hL] at this; cases this
                have hg := hS.g q10
                obtain ⟨c1, z1, hTx, hXx⟩ := HCx.out wx hg
                have y0 := hXx.cell (i := 0) rfl
                have y1 := hXx.cell (i := 1) rfl
                have y2 := hXx.cell (i := 2) rfl
                have hXl2 := hXx.lt
                refine Dag.yields (w' := wx) (.pointer (some ⟨Tb, 25, none⟩)) ?_ ⟨.pointer (some ⟨Tb, 25, none⟩), rfl, hkeep 3 _ (Or.inl (by rw [HPV.out]; rfl)) hL, ?_⟩
                · clear hP hS hat haft hkeep hL hg q10
                  generalize b.eval = ρ at *
                  go_simp
                · simp only [getD_set_ne false (show 3 ≠ 6 by decide), getD_set_ne false (show 3 ≠ 7 by decide), getD_set_ne false (show 3 ≠ 10 by decide), Dag.turn_other vals (i := 3) (j := 6) _ (by decide), Dag.turn_other vals (i := 3) (j := 7) _ (by decide)]
                  exact hS
              | 4, _ =>
                injection ho with ho
                subst ho
                have e82 : b.eval (.tmp 82) = .pointer (some ⟨Tb, 25, none⟩) := (hat.new 3 _ 82 (haft ⟨3, .data⟩ (by simp) rfl) rfl rfl).trans (hP 3 _ (by rw [HPV.out]; rfl) (haft ⟨3, .data⟩ (by simp) rfl))
                have q10 : Lf.getD 10 false = false := by
                  cases h : Lf.getD 10 false with
                  | false => rfl
                  | true => have := hat.closed 10 _ h rfl ⟨4, .phase⟩ (by simp) rfl; rw [Dag.off hL] at this; cases this
                have hg := hS.g q10
                obtain ⟨c1, z1, hTx, hXx⟩ := HCx.out wx hg
                have y0 := hXx.cell (i := 0) rfl
                have y1 := hXx.cell (i := 1) rfl
                have y2 := hXx.cell (i := 2) rfl
                have hXl2 := hXx.lt
                refine Dag.yields (w' := wx) (.slice ob OL oe) ?_ ⟨.slice ob OL oe, rfl, hkeep 4 _ (Or.inl (by rw [HPV.out]; rfl)) hL, ?_⟩
                · clear hP hS hat haft hkeep hL hg q10
                  generalize b.eval = ρ at *
                  go_simp
                · simp only [getD_set_ne false (show 4 ≠ 6 by decide), getD_set_ne false (show 4 ≠ 7 by decide), getD_set_ne false (show 4 ≠ 10 by decide), Dag.turn_other vals (i := 4) (j := 6) _ (by decide), Dag.turn_other vals (i := 4) (j := 7) _ (by decide)]
                  exact hS
              | 5, _ =>
                injection ho with ho
                subst ho
                have q10 : Lf.getD 10 false = false := by
                  cases h : Lf.getD 10 false with
                  | false => rfl
                  | true => have := hat.closed 10 _ h rfl ⟨5, .phase⟩ (by simp) rfl; rw [Dag.off hL] at this; cases this
                have hg := hS.g q10
                obtain ⟨c1, z1, hTx, hXx⟩ := HCx.out wx hg
                have y0 := hXx.cell (i := 0) rfl
                have y1 := hXx.cell (i := 1) rfl
                have y2 := hXx.cell (i := 2) rfl
                have hXl2 := hXx.lt
                refine Dag.yields (w' := wx) (.agg #[.int .i64 (j : Int), .int .i64 okd, .int .i64 oi]) ?_ ⟨.agg #[.int .i64 (j : Int), .int .i64 okd, .int .i64 oi], rfl, hkeep 5 _ (Or.inl (by rw [HPV.out]; rfl)) hL, ?_⟩
                · clear hP hS hat haft hkeep hL hg q10
                  generalize b.eval = ρ at *
                  go_simp
                · simp only [getD_set_ne false (show 5 ≠ 6 by decide), getD_set_ne false (show 5 ≠ 7 by decide), getD_set_ne false (show 5 ≠ 10 by decide), Dag.turn_other vals (i := 5) (j := 6) _ (by decide), Dag.turn_other vals (i := 5) (j := 7) _ (by decide)]
                  exact hS
              | 6, _ =>
                injection ho with ho
                subst ho
                have e84 : b.eval (.tmp 84) = .agg #[.int .i64 (j : Int), .int .i64 okd, .int .i64 oi] := (hat.new 5 _ 84 (haft ⟨5, .data⟩ (by simp) rfl) rfl rfl).trans (hP 5 _ (by rw [HPV.out]; rfl) (haft ⟨5, .data⟩ (by simp) rfl))
                have q10 : Lf.getD 10 false = false := by
                  cases h : Lf.getD 10 false with
                  | false => rfl
                  | true => have := hat.closed 10 _ h rfl ⟨6, .phase⟩ (by simp) rfl; rw [Dag.off hL] at this; cases this
                have hg := hS.g q10
                obtain ⟨c1, z1, hTx, hXx⟩ := HCx.out wx hg
                have y0 := hXx.cell (i := 0) rfl
                have y1 := hXx.cell (i := 1) rfl
                have y2 := hXx.cell (i := 2) rfl
                have hXl2 := hXx.lt
                have q7 : Lf.getD 7 false = false := by
                  cases h : Lf.getD 7 false with
                  | false => rfl
                  | true => have := hat.closed 7 _ h rfl ⟨6, .data⟩ (by simp) rfl; rw [Dag.off hL] at this; cases this
                rw [q7, q10, Dag.off hL] at hS
                refine Dag.yields (w' := wx.alloc (.cells #[.int .i64 (j : Int), .int .i64 okd, .int .i64 oi] 30)) (.slice (some ⟨wx.heap.size, 0, none⟩) 1 1) ?_ ⟨_, rfl, hkeep 6 _ (Or.inr (by rw [HPV.out]; rfl)) hL, ?_⟩
                · clear hP hS hat haft hkeep hL hg
                  generalize b.eval = ρ at *
                  go_simp
                rw [Dag.on hL]
                simp only [getD_set_ne false (show 6 ≠ 7 by decide), getD_set_ne false (show 6 ≠ 10 by decide), Dag.turn_same, Dag.turn_other vals (i := 6) (j := 7) _ (by decide)]
                rw [q7, q10]
                exact hS.lay
              | 7, _ =>
                injection ho with ho
                subst ho
                have e83 : b.eval (.tmp 83) = .slice ob OL oe := (hat.new 4 _ 83 (haft ⟨4, .data⟩ (by simp) rfl) rfl rfl).trans (hP 4 _ (by rw [HPV.out]; rfl) (haft ⟨4, .data⟩ (by simp) rfl))
                have e85 : b.eval (.tmp 85) = vals 6 := hat.new 6 _ 85 (haft ⟨6, .data⟩ (by simp) rfl) rfl rfl
                have l6 : Lf.getD 6 false = true := haft ⟨6, .data⟩ (by simp) rfl
                have q10 : Lf.getD 10 false = false := by
                  cases h : Lf.getD 10 false with
                  | false => rfl
                  | true => have := hat.closed 10 _ h rfl ⟨7, .phase⟩ (by simp) rfl; rw [Dag.off hL] at this; cases this
                have hg := hS.g q10
                obtain ⟨c1, z1, hTx, hXx⟩ := HCx.out wx hg
                have y0 := hXx.cell (i := 0) rfl
                have y1 := hXx.cell (i := 1) rfl
                have y2 := hXx.cell (i := 2) rfl
                have hXl2 := hXx.lt
                rw [l6, q10, Dag.off hL] at hS
                have hbl := hS.a rfl rfl
                have hown := ownsRow_below (HOut.out) hbl
                have hvb := hS.b rfl
                have hkb := hS.k rfl rfl rfl
                have hsz := hbl.size
                refine wp_append_lies wx _ _ 22 rfl (B) 30 i0 _ 3 24 Try.underlying22 hi0 hz0 hz1 hz2 rfl (by decide) (.slice ob OL oe) (OL) (opVals s.out) e83 hown ⟨_, 0, none⟩ 1 1 [.int .i64 (j : Int), .int .i64 okd, .int .i64 oi] (e85.trans hvb) rfl (World.news_of_block (cs := #[.int .i64 (j : Int), .int .i64 okd, .int .i64 oi]) (t := 30) (fr := (0, 0)) hkb) (by simp [Value.oneCell']) (by omega) (by unfold maxLen; omega) (by omega) (by have := hsz; omega) _ rfl ?_
                intro gQ gcQ w'' hown2 hgrow hatg hltg
                refine ⟨_, rfl, hkeep 7 _ (Or.inr (by rw [HPV.out]; rfl)) hL, ?_⟩
                rw [Dag.on hL]
                simp only [getD_set_ne false (show 7 ≠ 6 by decide), getD_set_ne false (show 7 ≠ 10 by decide), Dag.turn_same, Dag.turn_other vals (i := 7) (j := 6) _ (by decide)]
                rw [l6, q10]
                exact hS.app hown2 hgrow hatg
              | 8, _ =>
                injection ho with ho
                subst ho
                have e79 : b.eval (.tmp 79) = .pointer (some ⟨Tb, 0, none⟩) := (hat.new 0 _ 79 (haft ⟨0, .data⟩ (by simp) rfl) rfl rfl).trans (hP 0 _ (by rw [HPV.out]; rfl) (haft ⟨0, .data⟩ (by simp) rfl))
                have q10 : Lf.getD 10 false = false := by
                  cases h : Lf.getD 10 false with
                  | false => rfl
                  | true =>
                    have h9 := hat.closed 10 _ h rfl ⟨9, .data⟩ (by simp) rfl
                    have h8 := hat.closed 9 _ h9 rfl ⟨8, .data⟩ (by simp) rfl
                    rw [Dag.off hL] at h8; cases h8
                have hg := hS.g q10
                obtain ⟨c1, z1, hTx, hXx⟩ := HCx.out wx hg
                have y0 := hXx.cell (i := 0) rfl
                have y1 := hXx.cell (i := 1) rfl
                have y2 := hXx.cell (i := 2) rfl
                have hXl2 := hXx.lt
                refine Dag.yields (w' := wx) (.pointer (some ⟨Tb, 0, none⟩)) ?_ ⟨.pointer (some ⟨Tb, 0, none⟩), rfl, hkeep 8 _ (Or.inl (by rw [HPV.out]; rfl)) hL, ?_⟩
                · clear hP hS hat haft hkeep hL hg q10
                  generalize b.eval = ρ at *
                  go_simp
                · simp only [getD_set_ne false (show 8 ≠ 6 by decide), getD_set_ne false (show 8 ≠ 7 by decide), getD_set_ne false (show 8 ≠ 10 by decide), Dag.turn_other vals (i := 8) (j := 6) _ (by decide), Dag.turn_other vals (i := 8) (j := 7) _ (by decide)]
                  exact hS
              | 9, _ =>
                injection ho with ho
                subst ho
                have e87 : b.eval (.tmp 87) = .pointer (some ⟨Tb, 0, none⟩) := (hat.new 8 _ 87 (haft ⟨8, .data⟩ (by simp) rfl) rfl rfl).trans (hP 8 _ (by rw [HPV.out]; rfl) (haft ⟨8, .data⟩ (by simp) rfl))
                have q10 : Lf.getD 10 false = false := by
                  cases h : Lf.getD 10 false with
                  | false => rfl
                  | true =>
                    have h9 := hat.closed 10 _ h rfl ⟨9, .data⟩ (by simp) rfl
                    rw [Dag.off hL] at h9; cases h9
                have hg := hS.g q10
                obtain ⟨c1, z1, hTx, hXx⟩ := HCx.out wx hg
                have y0 := hXx.cell (i := 0) rfl
                have y1 := hXx.cell (i := 1) rfl
                have y2 := hXx.cell (i := 2) rfl
                have hXl2 := hXx.lt
                refine Dag.yields (w' := wx) (.pointer (some ⟨Tb, 25, none⟩)) ?_ ⟨.pointer (some ⟨Tb, 25, none⟩), rfl, hkeep 9 _ (Or.inl (by rw [HPV.out]; rfl)) hL, ?_⟩
                · clear hP hS hat haft hkeep hL hg q10
                  generalize b.eval = ρ at *
                  go_simp
                · simp only [getD_set_ne false (show 9 ≠ 6 by decide), getD_set_ne false (show 9 ≠ 7 by decide), getD_set_ne false (show 9 ≠ 10 by decide), Dag.turn_other vals (i := 9) (j := 6) _ (by decide), Dag.turn_other vals (i := 9) (j := 7) _ (by decide)]
                  exact hS
              | 10, _ =>
                injection ho with ho
                subst ho
                have e88 : b.eval (.tmp 88) = .pointer (some ⟨Tb, 25, none⟩) := (hat.new 9 _ 88 (haft ⟨9, .data⟩ (by simp) rfl) rfl rfl).trans (hP 9 _ (by rw [HPV.out]; rfl) (haft ⟨9, .data⟩ (by simp) rfl))
                have e86 : b.eval (.tmp 86) = vals 7 := hat.new 7 _ 86 (haft ⟨7, .data⟩ (by simp) rfl) rfl rfl
                have l7 : Lf.getD 7 false = true := haft ⟨7, .data⟩ (by simp) rfl
                have lb : Lf.getD 6 false = true := hat.closed 7 _ l7 rfl ⟨6, .data⟩ (by simp) rfl
                rw [lb, l7, Dag.off hL] at hS
                have hg := hS.g rfl
                obtain ⟨c1, z1, hTx, hXx⟩ := HCx.out wx hg
                have y0 := hXx.cell (i := 0) rfl
                have y1 := hXx.cell (i := 1) rfl
                have y2 := hXx.cell (i := 2) rfl
                have hXl2 := hXx.lt
                obtain ⟨gQ, gcQ, hva, _⟩ := hS.c rfl rfl
                have hput := hS.put
                rw [hva] at hput
                have ev := e86.trans hva
                refine Dag.skips (w' := wx.setCell (⟨Tb, 25, none⟩) (.slice (some ⟨gQ, 0, none⟩) (OL + 1) gcQ)) ?_ ⟨_, rfl, hkeep 10 _ (Or.inr (by rw [HPV.out]; rfl)) hL, ?_⟩
                · clear hP hS hat haft hkeep hL hg hput e86 hva
                  generalize b.eval = ρ at *
                  go_simp
                rw [Dag.on hL]
                simp only [getD_set_ne false (show 10 ≠ 6 by decide), getD_set_ne false (show 10 ≠ 7 by decide), Dag.turn_other vals (i := 10) (j := 6) _ (by decide), Dag.turn_other vals (i := 10) (j := 7) _ (by decide)]
                rw [lb, l7, hva]
                exact hput
              | i + 11, h => exact absurd h (by simp)
            · intro Lf vals wx hall hR
              obtain ⟨hP, hS⟩ := hR
              rw [hall 6 (by simp), hall 7 (by simp), hall 10 (by simp)] at hS
              obtain ⟨w1, hwx, gQ, gcQ, hva, hown, hatg, hgrow⟩ := hS.d rfl
              have hvb := hS.b rfl
              have u0 := hP 0 _ (by rw [HPV.out]; rfl) (hall 0 (by simp))
              have u1 := hP 1 _ (by rw [HPV.out]; rfl) (hall 1 (by simp))
              have u2 := hP 2 _ (by rw [HPV.out]; rfl) (hall 2 (by simp))
              have u3 := hP 3 _ (by rw [HPV.out]; rfl) (hall 3 (by simp))
              have u4 := hP 4 _ (by rw [HPV.out]; rfl) (hall 4 (by simp))
              have u5 := hP 5 _ (by rw [HPV.out]; rfl) (hall 5 (by simp))
              have u8 := hP 8 _ (by rw [HPV.out]; rfl) (hall 8 (by simp))
              have u9 := hP 9 _ (by rw [HPV.out]; rfl) (hall 9 (by simp))
              simp only [Dag.all, List.size_toArray, List.length_cons, List.length_nil, Nat.reduceAdd, List.getElem?_toArray, List.getElem?_cons_zero, List.getElem?_cons_succ, Option.bind_some]
              rw [u0, u1, u2, u3, u4, u5, u8, u9, hvb, hva]
              rw [hva] at hown hwx
              have hsr := HW8.out.pushOut (o := ⟨(j : Int), okd, oi⟩) hv12 HOL.out hown hgrow hatg
              have HSR := box hsr
              rw [hwx]
              clear hP hS hall hown hgrow hatg hwx hvb hva hsr
              go_wp2_with fail
              go_meet
              exact ⟨_, HSR⟩
          case rest =>
            obtain ⟨u, HS9⟩ := hcut
            have HFin := box (HPost.out _ wc rfl ⟨{ s with locks := t2, out := s.out ++ [⟨j, okd, oi⟩] }, _, by rw [← Ht2.out]; exact .ok rfl HD.out hl0 hk3 Hbb.out, ⟨_, _, _, _, HS9.out.1⟩, HO8.out.trans HS9.out.2⟩)
            clear HCx HOut HS9
            go_wp2_with fail
            exact bodyPost_end (results_none rfl _ _ _) rfl HFin.out
        | false =>
          go_upto_region 11 with (fail)
          have c9 := HW8.out.cLate hj12
          have z9 := HW8.out.blk.frozen (1 + j)
          have hB2 : B ≤ V8.heap.size := HW8.out.bw
          have HSet : Box (∀ W, Below V8.heap.size V8 W → TwoW ((W.alloc (.cells #[.int .i64 (j : Int), .int .i64 okd, .int .i64 oi] 30)).setCell ⟨Tb, 1 + j, none⟩ (.slice (some ⟨W.heap.size, 0, none⟩) 1 1)) B Tb { s with locks := t2, late := upd s.late j [⟨j, okd, oi⟩] } (upd v j (.slice (some ⟨W.heap.size, 0, none⟩) 1 1)) ta tc w3.heap.size w4 ∧ Only B Tb v (upd v j (.slice (some ⟨W.heap.size, 0, none⟩) 1 1)) V8 ((W.alloc (.cells #[.int .i64 (j : Int), .int .i64 okd, .int .i64 oi] 30)).setCell ⟨Tb, 1 + j, none⟩ (.slice (some ⟨W.heap.size, 0, none⟩) 1 1))) := ⟨fun W hb => by
            have hb2 : Below W.heap.size W (W.alloc (.cells #[.int .i64 (j : Int), .int .i64 okd, .int .i64 oi] 30)) := (Below.refl _ _).alloc (Nat.le_refl _) _
            have hs := (HW8.out.after hb).setRow (s' := { s with locks := t2, late := upd s.late j [⟨j, okd, oi⟩] }) (i := j) (by omega) (W' := W.alloc (.cells #[.int .i64 (j : Int), .int .i64 okd, .int .i64 oi] 30)) (u := .slice (some ⟨W.heap.size, 0, none⟩) 1 1) (l := [⟨j, okd, oi⟩]) (World.ownsRow_lit W #[.int .i64 (j : Int), .int .i64 okd, .int .i64 oi] 1 (Nat.le_trans hB2 hb.size) (by decide) rfl) ⟨hb2.os, hb2.tape, hb2.output, hb2.size, fun b h1 _ => hb2.block b h1⟩ (by intro b hb; right; simp [Value.ownBlock] at hb; omega) (rows_late hj12 rfl rfl) rfl (fun _ _ => rfl) (1 + j) (by rw [if_neg (by omega)])
            exact ⟨hs.1, (HW8.out.only hb).trans hs.2⟩⟩
          go_cut [] from 8 to 98 (fun wx => ∃ u, Box (TwoW wx B Tb { s with locks := t2, late := upd s.late j [⟨j, okd, oi⟩] } (upd v j u) ta tc w3.heap.size w4 ∧ Only B Tb v (upd v j u) V8 wx))
          case first => as_aux_lemma =>
            go_region
            go_wp2_with fail
            go_meet
            have hw : (V8.setCell ⟨Tb, 1 + j, none⟩ (.slice (some ⟨V8.heap.size, 0, none⟩) 1 1)).alloc (.cells #[.int .i64 (j : Int), .int .i64 okd, .int .i64 oi] 30) = (V8.alloc (.cells #[.int .i64 (j : Int), .int .i64 okd, .int .i64 oi] 30)).setCell ⟨Tb, 1 + j, none⟩ (.slice (some ⟨V8.heap.size, 0, none⟩) 1 1) := (World.setCell_alloc_past _ _ _ _ hTl).symm
            rw [hw]
            have hs := HSet.out V8 (Below.refl _ _)
            have hd : ∀ W : World, Below W.heap.size W W.drew := fun W => (Below.refl _ _).drew
            exact ⟨_, ⟨hs.1.after (hd _), hs.2.after (hd _) hs.1.bw⟩⟩
          case rest =>
            obtain ⟨u, HS9⟩ := hcut
            have hdm := askDom (o := ⟨j, okd, oi⟩) rfl HBad.out
            have HG2 : Box (LkM.Good t2) := ⟨by
              have := LkM.ask_good (a := ⟨j, TwoM.mode ⟨j, okd, oi⟩⟩) hdm.1 ⟨hdm.2.1, hdm.2.2⟩ HI.out.good (not_waiting HI.out hl0)
              rwa [Ht2.out] at this⟩
            have HI2 : Box (Inv { s with locks := t2, late := upd s.late j [⟨j, okd, oi⟩] } G p h) := ⟨by
              have h1 := HI.out.waits (o := ⟨j, okd, oi⟩) HD.out hl0 hk3 (by rw [Ht2.out]; exact HG2.out) (LkM.ask_no HI.out.good HI.out.plain (mode_two _) (not_waiting HI.out hl0) Hbb.out)
              rw [Ht2.out] at h1
              exact h1⟩
            have HLt : Box (lates { s with locks := t2, late := upd s.late j [⟨j, okd, oi⟩] } ≤ m + 1) := ⟨by
              rw [lates_one hj12 hl0]
              omega⟩
            have HCall := box (HFr.out B Tb wc { s with locks := t2, late := upd s.late j [⟨j, okd, oi⟩] } _ G p h ⟨_, _, _, _, HS9.out.1⟩ HI2.out HTo.out HLt.out)
            have HFin : Box (∀ s3 v3 w6, Free { s with locks := t2, late := upd s.late j [⟨j, okd, oi⟩] } s3 → At w6 B Tb s3 v3 → Only B Tb (upd v j u) v3 wc w6 → PP (.returned (.tuple #[])) w6) := ⟨fun s3 v3 w6 k1 k2 k3 => HPost.out _ w6 rfl ⟨s3, v3, .wait rfl HD.out hl0 hk3 Hbb.out (by rw [Ht2.out]; exact k1), k2, (HO8.out.trans HS9.out.2).trans k3⟩⟩
            clear HSet HS9 c9 z9
            go_wp2_with fail
            refine HCall.out.mono ?_
            rintro e w6 ⟨rfl, s3, v3, k1, k2, k3⟩
            have HF2 := box (HFin.out s3 v3 w6 k1 k2 k3)
            go_wp2_with fail
            exact bodyPost_end (results_none rfl _ _ _) rfl HF2.out
end Go.Proofs.Ytnnkejolfhhmlaa
