/- see.view of a right run in which nobody aborts: what it answers. -/
import Derived.Test.YtnhhjjhhicmfpaaSeeVM
import Derived.Test.YtnhhjjhhicmfpaaSeeR
import Derived.Test.YtnhhjjhhicmfpaaSeeLa
import Derived.Test.YtnhhjjhhicmfpaaDagV
import Derived.Test.YtnhhjjhhicmfpaaRowLaws
namespace Go.Proofs.Ytnhhjjhhicmfpaa
open Go.RowKit Go.Lib

def SeeM.ViewPost (l : List OpM) (w : World) (e : Ending) (w' : World) : Prop :=
  Below w.heap.size w w' ∧ ∃ M, e = .returned (.tuple #[.map (some M), .agg (ETab (SeeM.lastN l)).toArray]) ∧ w.heap.size ≤ M ∧ StMap w' M (SeeM.view l)

set_option maxRecDepth 100000 in
set_option maxHeartbeats 16000000 in
theorem view_any (l : List OpM) (ao : Option Addr) (cap : Nat) (w : World) (h : OpsAt w ao l) (hf : RunM.Fits l) (hc : RunM.check l = 0) (hna : ∀ o ∈ l, o.kind ≠ 4) :
    Calls Try.prog 46 #[.slice ao l.length cap] w (SeeM.ViewPost l w) := by
  have H := box h
  have hlen := (RunM.check_ok hc).1
  have HTx : Box (∀ o ∈ l, 0 ≤ o.tx ∧ o.tx < 12) := ⟨fun o ho => by have := RunM.bad_zero ((RunM.check_ok hc).2.2 o ho); omega⟩
  have HR := box (fun W (hb : Below w.heap.size w W) => reads_any l ao cap W (h.below hb (Nat.le_refl _)) hf hc hna)
  have HL := box (fun W (hb : Below w.heap.size w W) => last_any l ao cap W (h.below hb (Nat.le_refl _)) hf hc hna)
  clear h hf hc hna
  obtain ⟨n, HN⟩ : ∃ n, Box (l.length = n) := ⟨_, ⟨rfl⟩⟩
  rw [HN.out] at HR HL hlen ⊢
  go_enter Try.func46, Try.ntmps46
  go_upto_region 1 with (fail)
  refine name_world (fun W => W.heap.size = w.heap.size + 1 ∧ Below w.heap.size w W ∧ Blk W w.heap.size 94 (ETab fun _ => ⟨0, 0⟩)) ⟨by simp, (Below.refl _ _).alloc (Nat.le_refl _) _, Blk.new w (ETab fun _ => ⟨0, 0⟩) _⟩ ?_
  rintro W0 ⟨hWs, hWb, hWr⟩
  have HW0 := box hWb; have HR0 := box hWr
  have HNm := box (names_any l ao cap W0 (H.out.below HW0.out (Nat.le_refl _)) (by rw [HN.out]; exact hlen) HTx.out)
  rw [HN.out] at HNm
  clear hWb hWr
  go_wp2_with fail
  refine HNm.out.mono ?_
  rintro e w1 ⟨⟨v1, rfl, hown1⟩, hb1⟩
  obtain ⟨no, nc, rfl, _, hnat, _, _⟩ := egs_own 93 hown1
  rw [SeeM.namesTo_len]
  have HB1 := box (below_tr HW0.out hb1)
  have HRs := box (HR0.out.after hb1)
  have HNa := box (by rw [← HN.out] at hnat; exact hnat : EgsAt w1 no (SeeM.namesTo l l.length))
  have hlt1 : w.heap.size < w1.heap.size := by have := hb1.size; omega
  clear hown1 hb1 hnat HNm HW0 HR0 hWs
  have hmk : ∀ W : World, (Instr.makeMap 91 none).run Try.prog W = .ok (.map (some W.heap.size)) (W.alloc (.map #[] 0)) := fun W => rfl
  go_upto_region 4 with (fail)
  clear hmk
  have hs1 := HB1.out.size
  refine name_world (fun W => SeeM.VW w l w1.heap.size (w1.heap.size + 1) no nc none [] [] W) ⟨hlt1, Nat.lt_succ_self _, (HRs.out.alloc _).alloc (.map #[] 0), by rw [HN.out]; exact (Blk.new w1 [.slice no n nc] _).alloc _, (HNa.out.below (((Below.refl _ _).alloc (Nat.le_refl _) _).alloc (by simp) _) (Nat.le_refl _)), Or.inl rfl, StMap.new' (by rw [World.size_alloc]), (HB1.out.alloc hs1 _).alloc (by simp; omega) _⟩ ?_
  intro W hW
  have HW := box hW
  clear hW HB1 HRs HNa hlt1 hs1
  generalize w1.heap.size = P at *
  go_wp2_with fail
  refine (HR.out W HW.out.below).mono ?_
  rintro e w2 ⟨hb2, v2, rfl, hown2⟩
  obtain ⟨ro, rc, rfl, _, hrat, _, _⟩ := egs_own 51 hown2
  have HW2 : Box (SeeM.VW w l P (P + 1) no nc ro (SeeM.readsTo l l.length) (SeeM.viewTo l 0) w2) := ⟨by
    have h := HW.out.after hb2
    exact ⟨h.hP, h.hM, h.res, h.is, h.names, hrat, by
      have : SeeM.viewTo l 0 = [] := by simp [SeeM.viewTo]
      rw [this]; exact h.map, h.below⟩⟩
  clear hown2 hb2 hrat HW HR
  obtain ⟨nr, HNr⟩ : ∃ nr, Box ((SeeM.readsTo l l.length).length = nr) := ⟨_, ⟨rfl⟩⟩
  have hnr : nr ≤ 200 := by have := SeeM.readsTo_len l l.length; rw [HNr.out] at this; have := HN.out; omega
  rw [HNr.out]
  go_wp2_with fail
  go_loopw [27] (fun t27 wr => ∃ k : Nat, k ≤ nr ∧ t27 = .int .i64 (k : Int) ∧ Box (SeeM.VW w l P (P + 1) no nc ro (SeeM.readsTo l l.length) (SeeM.viewTo l k) wr)) (fun t27 _ => nr - (RowKit.intOf t27).toNat)
  case atStart => exact ⟨0, Nat.zero_le _, rfl, HW2⟩
  case round =>
    obtain ⟨k, hk, rfl, HV⟩ := hrel
    clear HW2
    by_cases hlt : k < nr
    · have hkr : k < (SeeM.readsTo l l.length).length := by rw [HNr.out]; exact hlt
      obtain ⟨rb, roff, rfl, _, hrow⟩ := HV.out.reads.resolve_left (by intro h; rw [h] at hkr; simp at hkr)
      obtain ⟨s0, s1⟩ := hrow k hkr
      have hmem := SeeM.readsTo_mem (List.getElem_mem hkr)
      have HFr := box (SeeM.viewTo_fresh hkr)
      have HSu := box (SeeM.viewTo_succ l hkr)
      generalize (SeeM.readsTo l l.length)[k] = s at *
      obtain ⟨ii, hii, rfl, _⟩ := hmem
      have hlr := SeeM.lastTo_range l (l[ii]!).item.toNat ii
      simp only at s0 s1 HFr HSu
      generalize SeeM.lastTo l (l[ii]!).item.toNat ii = x1 at *
      have hil : ii < l.length := hii
      obtain ⟨nb, noff, rfl, hnb, hnrow⟩ := HV.out.names.resolve_left (by intro h; have := SeeM.namesTo_len l l.length; rw [h] at this; simp at this; omega)
      have HNg : Box (SeeM.nmOf l (ii : Int) = (SeeM.namesTo l l.length)[ii]'(by rw [SeeM.namesTo_len]; exact hil)) := ⟨by
        unfold SeeM.nmOf
        rw [if_neg (by omega), Int.toNat_natCast, ← SeeM.namesTo_get l hil, getElem!_pos _ _ (by rw [SeeM.namesTo_len]; exact hil)]⟩
      have HNc : Box (∀ wx, EgsAt wx (some ⟨nb, noff, none⟩) (SeeM.namesTo l l.length) → wx.cell? ⟨nb, noff + ii * 2, none⟩ = some (.int .i64 (SeeM.nmOf l (ii : Int)).frm) ∧ wx.cell? ⟨nb, noff + ii * 2 + 1, none⟩ = some (.int .i64 (SeeM.nmOf l (ii : Int)).to_)) := ⟨fun wx h => by
        obtain ⟨nb', noff', e, _, hr⟩ := h.resolve_left (by intro h; have := SeeM.namesTo_len l l.length; rw [h] at this; simp at this; omega)
        simp only [Option.some.injEq, Addr.mk.injEq, and_true] at e
        obtain ⟨rfl, rfl⟩ := e
        rw [HNg.out]
        exact hr ii (by rw [SeeM.namesTo_len]; exact hil)⟩
      have HAt := box (fun (wx : World) hP hn => viewAt_any l x1 P (some ⟨nb, noff, none⟩) nc wx hP hn hlr.1 (by omega))
      clear hrow hnrow HNg
      obtain ⟨⟨k0, k1⟩, HK⟩ : ∃ p, Box (SeeM.nmOf l (ii : Int) = p) := ⟨_, ⟨rfl⟩⟩
      obtain ⟨⟨v0, v1⟩, HVv⟩ : ∃ p, Box (SeeM.nmOf l x1 = p) := ⟨_, ⟨rfl⟩⟩
      rw [HK.out] at HNc HFr HSu
      rw [HVv.out] at HAt HSu
      have hin : ii < n := by rw [← HN.out]; exact hil
      have hini : (ii : Int) < (n : Int) := by omega
      go_upto_region 8 with (fail)
      refine name_world (fun W => SeeM.VD w l P (P + 1) (some ⟨nb, noff, none⟩) nc (some ⟨rb, roff, none⟩) (SeeM.readsTo l l.length) (SeeM.viewTo l k) (⟨k0, k1⟩, ⟨v0, v1⟩) wr.heap.size (ii : Int) x1 false W) ⟨by simpa using HV.out.alloc _, Blk.new _ _ _⟩ ?_
      intro W3 hW3
      have HW3 := box hW3
      clear hW3 s0 s1
      generalize wr.heap.size = A at *
      refine wp_meetF (fun wx => SeeM.VD w l P (P + 1) (some ⟨nb, noff, none⟩) nc (some ⟨rb, roff, none⟩) (SeeM.readsTo l l.length) (SeeM.viewTo l k) (⟨k0, k1⟩, ⟨v0, v1⟩) A (ii : Int) x1 true wx) ?_
      apply Exists.intro
      constructor
      · obtain ⟨gg, gk, _⟩ : ∃ _ _ : Nat, True := ⟨0, 0, trivial⟩
        obtain ⟨PV, HPV⟩ : ∃ PV : Nat → Option Value, Box (PV = fun i => ([some (.map (some (P + 1))), some (.slice (some ⟨nb, noff, none⟩) n nc), some (.pointer (some ⟨A, 0, none⟩)), some (.int .i64 (ii : Int)), some (.pointer (some ⟨nb, noff + ii * 2, none⟩)), some (.agg #[.int .i64 k0, .int .i64 k1]), some (.func (.func 77) #[] #[.pointer (some ⟨P, 0, none⟩)]), some (.pointer (some ⟨A, 1, none⟩)), some (.int .i64 x1), some (.agg #[.int .i64 v0, .int .i64 v1]), none] : List (Option Value)).getD i none) := ⟨_, ⟨rfl⟩⟩
        refine wp_region_dagv (by kernel_rfl) (fun Lf vals wx => (∀ i v, PV i = some v → Lf.getD i false = true → vals i = v) ∧ SeeM.VD w l P (P + 1) (some ⟨nb, noff, none⟩) nc (some ⟨rb, roff, none⟩) (SeeM.readsTo l l.length) (SeeM.viewTo l k) (⟨k0, k1⟩, ⟨v0, v1⟩) A (ii : Int) x1 (Lf.getD 10 false)  wx) (by kernel_rfl) ?_ ?_ ?_
        · refine ⟨fun i v _ h => absurd h (by simp [Array.getD_eq_getD_getElem?, Array.getElem?_replicate]; try (split <;> simp)), ?_⟩
          simp only [Array.getD_eq_getD_getElem?, Array.getElem?_replicate, List.size_toArray, List.length_cons, List.length_nil, Nat.reduceAdd, Nat.reduceLT, if_true, Option.getD_some]
          exact ⟨by simpa using HW3.out.1.after (Below.refl _ _).drew, HW3.out.2.drew⟩
        · intro i hi o ho Lf vals b wx hat haft hL hR
          obtain ⟨hP, hS⟩ := hR
          have hco := hat.const
          have hkeep : ∀ i v, (PV i = some v ∨ PV i = none) → Lf.getD i true = false → (∀ j u, PV j = some u → (Lf.setIfInBounds i true).getD j false = true → Dag.turn vals i v j = u) := fun i v hv hL j u hu hj => by
            by_cases e : j = i
            · subst e; rw [Dag.turn_same]; rcases hv with hv | hv <;> rw [hv] at hu <;> simp at hu; exact hu
            · rw [Dag.turn_other _ _ e]; rw [getD_set_ne false (Ne.symm e)] at hj; exact hP j u hu hj
          have r6 : b.eval (.tmp 6) = .map (some (P + 1)) := hat.old 6 (by
            intro j o' hj
            match j with
            | 0 | 1 | 2 | 3 | 4 | 5 | 6 | 7 | 8 | 9 | 10 => injection hj with hj; subst hj; simp
            | j + 11 => cases hj)
          have r4 : b.eval (.tmp 4) = .pointer (some ⟨P, 0, none⟩) := hat.old 4 (by
            intro j o' hj
            match j with
            | 0 | 1 | 2 | 3 | 4 | 5 | 6 | 7 | 8 | 9 | 10 => injection hj with hj; subst hj; simp
            | j + 11 => cases hj)
          have r10 : b.eval (.tmp 10) = .pointer (some ⟨A, 0, none⟩) := hat.old 10 (by
            intro j o' hj
            match j with
            | 0 | 1 | 2 | 3 | 4 | 5 | 6 | 7 | 8 | 9 | 10 => injection hj with hj; subst hj; simp
            | j + 11 => cases hj)
          have r5 : b.eval (.tmp 5) = .func (.func 77) #[] #[.pointer (some ⟨P, 0, none⟩)] := hat.old 5 (by
            intro j o' hj
            match j with
            | 0 | 1 | 2 | 3 | 4 | 5 | 6 | 7 | 8 | 9 | 10 => injection hj with hj; subst hj; simp
            | j + 11 => cases hj)
          have hP1 := hS.1.is.cell (i := 0) rfl
          have hP0 := hS.1.is
          rw [HN.out] at hP0 hP1
          have a0 := hS.2.cell (i := 0) rfl
          have a1 := hS.2.cell (i := 1) rfl
          obtain ⟨n0, n1⟩ := HNc.out wx hS.1.names
          match i, hi with
          | 0, _ =>
            injection ho with ho
            subst ho
            refine Dag.yields (w' := wx) (.map (some (P + 1))) ?_ ⟨.map (some (P + 1)), rfl, hkeep 0 _ (Or.inl (by rw [HPV.out]; rfl)) hL, ?_⟩
            · clear hP hS hat haft hkeep hL
              generalize b.eval = ρ at *
              go_simp
            · simp only [getD_set_ne false (show 0 ≠ 10 by decide)]
              exact hS
          | 1, _ =>
            injection ho with ho
            subst ho
            refine Dag.yields (w' := wx) (.slice (some ⟨nb, noff, none⟩) n nc) ?_ ⟨.slice (some ⟨nb, noff, none⟩) n nc, rfl, hkeep 1 _ (Or.inl (by rw [HPV.out]; rfl)) hL, ?_⟩
            · clear hP hS hat haft hkeep hL
              generalize b.eval = ρ at *
              go_simp
            · simp only [getD_set_ne false (show 1 ≠ 10 by decide)]
              exact hS
          | 2, _ =>
            injection ho with ho
            subst ho
            refine Dag.yields (w' := wx) (.pointer (some ⟨A, 0, none⟩)) ?_ ⟨.pointer (some ⟨A, 0, none⟩), rfl, hkeep 2 _ (Or.inl (by rw [HPV.out]; rfl)) hL, ?_⟩
            · clear hP hS hat haft hkeep hL
              generalize b.eval = ρ at *
              go_simp
            · simp only [getD_set_ne false (show 2 ≠ 10 by decide)]
              exact hS
          | 3, _ =>
            injection ho with ho
            subst ho
            have e33 : b.eval (.tmp 33) = .pointer (some ⟨A, 0, none⟩) := (hat.new 2 _ 33 (haft ⟨2, .data⟩ (by simp) rfl) rfl rfl).trans (hP 2 _ (by rw [HPV.out]; rfl) (haft ⟨2, .data⟩ (by simp) rfl))
            refine Dag.yields (w' := wx) (.int .i64 (ii : Int)) ?_ ⟨.int .i64 (ii : Int), rfl, hkeep 3 _ (Or.inl (by rw [HPV.out]; rfl)) hL, ?_⟩
            · clear hP hS hat haft hkeep hL
              generalize b.eval = ρ at *
              go_simp
            · simp only [getD_set_ne false (show 3 ≠ 10 by decide)]
              exact hS
          | 4, _ =>
            injection ho with ho
            subst ho
            have e32 : b.eval (.tmp 32) = .slice (some ⟨nb, noff, none⟩) n nc := (hat.new 1 _ 32 (haft ⟨1, .data⟩ (by simp) rfl) rfl rfl).trans (hP 1 _ (by rw [HPV.out]; rfl) (haft ⟨1, .data⟩ (by simp) rfl))
            have e34 : b.eval (.tmp 34) = .int .i64 (ii : Int) := (hat.new 3 _ 34 (haft ⟨3, .data⟩ (by simp) rfl) rfl rfl).trans (hP 3 _ (by rw [HPV.out]; rfl) (haft ⟨3, .data⟩ (by simp) rfl))
            refine Dag.yields (w' := wx) (.pointer (some ⟨nb, noff + ii * 2, none⟩)) ?_ ⟨.pointer (some ⟨nb, noff + ii * 2, none⟩), rfl, hkeep 4 _ (Or.inl (by rw [HPV.out]; rfl)) hL, ?_⟩
            · clear hP hS hat haft hkeep hL
              generalize b.eval = ρ at *
              go_simp
            · simp only [getD_set_ne false (show 4 ≠ 10 by decide)]
              exact hS
          | 5, _ =>
            injection ho with ho
            subst ho
            have e35 : b.eval (.tmp 35) = .pointer (some ⟨nb, noff + ii * 2, none⟩) := (hat.new 4 _ 35 (haft ⟨4, .data⟩ (by simp) rfl) rfl rfl).trans (hP 4 _ (by rw [HPV.out]; rfl) (haft ⟨4, .data⟩ (by simp) rfl))
            refine Dag.yields (w' := wx) (.agg #[.int .i64 k0, .int .i64 k1]) ?_ ⟨.agg #[.int .i64 k0, .int .i64 k1], rfl, hkeep 5 _ (Or.inl (by rw [HPV.out]; rfl)) hL, ?_⟩
            · clear hP hS hat haft hkeep hL
              generalize b.eval = ρ at *
              go_simp
            · simp only [getD_set_ne false (show 5 ≠ 10 by decide)]
              exact hS
          | 6, _ =>
            injection ho with ho
            subst ho
            refine Dag.yields (w' := wx) (.func (.func 77) #[] #[.pointer (some ⟨P, 0, none⟩)]) ?_ ⟨.func (.func 77) #[] #[.pointer (some ⟨P, 0, none⟩)], rfl, hkeep 6 _ (Or.inl (by rw [HPV.out]; rfl)) hL, ?_⟩
            · clear hP hS hat haft hkeep hL
              generalize b.eval = ρ at *
              go_simp
            · simp only [getD_set_ne false (show 6 ≠ 10 by decide)]
              exact hS
          | 7, _ =>
            injection ho with ho
            subst ho
            refine Dag.yields (w' := wx) (.pointer (some ⟨A, 1, none⟩)) ?_ ⟨.pointer (some ⟨A, 1, none⟩), rfl, hkeep 7 _ (Or.inl (by rw [HPV.out]; rfl)) hL, ?_⟩
            · clear hP hS hat haft hkeep hL
              generalize b.eval = ρ at *
              go_simp
            · simp only [getD_set_ne false (show 7 ≠ 10 by decide)]
              exact hS
          | 8, _ =>
            injection ho with ho
            subst ho
            have e38 : b.eval (.tmp 38) = .pointer (some ⟨A, 1, none⟩) := (hat.new 7 _ 38 (haft ⟨7, .data⟩ (by simp) rfl) rfl rfl).trans (hP 7 _ (by rw [HPV.out]; rfl) (haft ⟨7, .data⟩ (by simp) rfl))
            refine Dag.yields (w' := wx) (.int .i64 x1) ?_ ⟨.int .i64 x1, rfl, hkeep 8 _ (Or.inl (by rw [HPV.out]; rfl)) hL, ?_⟩
            · clear hP hS hat haft hkeep hL
              generalize b.eval = ρ at *
              go_simp
            · simp only [getD_set_ne false (show 8 ≠ 10 by decide)]
              exact hS
          | 9, _ =>
            injection ho with ho
            subst ho
            have e37 : b.eval (.tmp 37) = .func (.func 77) #[] #[.pointer (some ⟨P, 0, none⟩)] := (hat.new 6 _ 37 (haft ⟨6, .data⟩ (by simp) rfl) rfl rfl).trans (hP 6 _ (by rw [HPV.out]; rfl) (haft ⟨6, .data⟩ (by simp) rfl))
            have e39 : b.eval (.tmp 39) = .int .i64 x1 := (hat.new 8 _ 39 (haft ⟨8, .data⟩ (by simp) rfl) rfl rfl).trans (hP 8 _ (by rw [HPV.out]; rfl) (haft ⟨8, .data⟩ (by simp) rfl))
            refine Dag.calls (w' := wx) (f := 77) (args := #[.int .i64 x1, .pointer (some ⟨P, 0, none⟩)]) ?_ (fun v w'' => v = .agg #[.int .i64 v0, .int .i64 v1] ∧ Below wx.heap.size wx w'') ?_ ?_
            · clear hP hS hat haft hkeep hL
              generalize b.eval = ρ at *
              go_simp
            · refine (HAt.out wx (by rw [HN.out]; exact hP0) hS.1.names).mono ?_
              rintro e w'' ⟨rfl, hb⟩
              exact ⟨_, rfl, rfl, hb⟩
            · rintro v w'' ⟨rfl, hb⟩
              refine ⟨_, rfl, hkeep 9 _ (Or.inl (by rw [HPV.out]; rfl)) hL, ?_⟩
              simp only [getD_set_ne false (show 9 ≠ 10 by decide)]
              exact ⟨hS.1.after hb, hS.2.after hb⟩
          | 10, _ =>
            injection ho with ho
            subst ho
            have e31 : b.eval (.tmp 31) = .map (some (P + 1)) := (hat.new 0 _ 31 (haft ⟨0, .data⟩ (by simp) rfl) rfl rfl).trans (hP 0 _ (by rw [HPV.out]; rfl) (haft ⟨0, .data⟩ (by simp) rfl))
            have e36 : b.eval (.tmp 36) = .agg #[.int .i64 k0, .int .i64 k1] := (hat.new 5 _ 36 (haft ⟨5, .data⟩ (by simp) rfl) rfl rfl).trans (hP 5 _ (by rw [HPV.out]; rfl) (haft ⟨5, .data⟩ (by simp) rfl))
            have e40 : b.eval (.tmp 40) = .agg #[.int .i64 v0, .int .i64 v1] := (hat.new 9 _ 40 (haft ⟨9, .data⟩ (by simp) rfl) rfl rfl).trans (hP 9 _ (by rw [HPV.out]; rfl) (haft ⟨9, .data⟩ (by simp) rfl))
            have hf : Lf.getD 10 false = false := Dag.off hL
            rw [hf] at hS
            have hVW := hS.1
            rw [if_neg (by simp)] at hVW
            obtain ⟨w', hu, hm, hg⟩ := hVW.map.update (k := ⟨k0, k1⟩) (v := ⟨v0, v1⟩) HFr.out
            have hS' : SeeM.VD w l P (P + 1) (some ⟨nb, noff, none⟩) nc (some ⟨rb, roff, none⟩) (SeeM.readsTo l l.length) (SeeM.viewTo l k) (⟨k0, k1⟩, ⟨v0, v1⟩) A (ii : Int) x1 true w' := ⟨by rw [if_pos rfl]; exact hVW.put hg hm, hS.2.grown hg (by
              have := hVW.map.ne hS.2
              simpa using this)⟩
            unfold nmV at hu
            refine Dag.skips (w' := w') ?_ ⟨_, rfl, hkeep 10 _ (Or.inr (by rw [HPV.out]; rfl)) hL, ?_⟩
            · clear hP hS hat haft hkeep hL hVW hm hg hS'
              generalize b.eval = ρ at *
              go_simp
            rw [Dag.on hL]
            exact hS'
          | i + 11, h => exact absurd h (by simp)
        · intro Lf vals wx hall hR
          obtain ⟨hP, hS⟩ := hR
          simp only [hall 10 (by simp)] at hS
          have u0 := hP 0 _ (by rw [HPV.out]; rfl) (hall 0 (by simp))
          have u1 := hP 1 _ (by rw [HPV.out]; rfl) (hall 1 (by simp))
          have u2 := hP 2 _ (by rw [HPV.out]; rfl) (hall 2 (by simp))
          have u3 := hP 3 _ (by rw [HPV.out]; rfl) (hall 3 (by simp))
          have u4 := hP 4 _ (by rw [HPV.out]; rfl) (hall 4 (by simp))
          have u5 := hP 5 _ (by rw [HPV.out]; rfl) (hall 5 (by simp))
          have u6 := hP 6 _ (by rw [HPV.out]; rfl) (hall 6 (by simp))
          have u7 := hP 7 _ (by rw [HPV.out]; rfl) (hall 7 (by simp))
          have u8 := hP 8 _ (by rw [HPV.out]; rfl) (hall 8 (by simp))
          have u9 := hP 9 _ (by rw [HPV.out]; rfl) (hall 9 (by simp))
          simp only [Dag.all, List.size_toArray, List.length_cons, List.length_nil, Nat.reduceAdd, Act.put, List.getElem?_toArray, List.getElem?_cons_zero, List.getElem?_cons_succ, Option.bind_some, List.setIfInBounds_toArray, List.set_cons_zero, List.set_cons_succ]
          rw [u0, u1, u2, u3, u4, u5, u6, u7, u8, u9]
          exact ⟨gg, gk, rfl, hS⟩
      · intro gg gk wx hcut
        have HC := box hcut
        clear hcut
        go_wp2_with fail
        go_roundw
        case rel => exact ⟨k + 1, hlt, by go_num, ⟨by
          have := HC.out.1
          rw [if_pos rfl] at this
          rw [HSu.out]; exact this⟩⟩
        case measure => simp [RowKit.intOf]; omega
    · obtain rfl : k = nr := by omega
      have HV2 : Box (SeeM.VW w l P (P + 1) no nc ro (SeeM.readsTo l l.length) (SeeM.view l) wr) := ⟨by
        have := HV.out
        rw [← HNr.out, SeeM.viewTo_all] at this
        exact this⟩
      clear HV
      obtain ⟨w5, hw5⟩ : ∃ x, x = wr := ⟨_, rfl⟩
      subst hw5
      go_upto_region 11 with (fail)
      refine name_world (fun W => SeeM.VW w l P (P + 1) no nc ro (SeeM.readsTo l l.length) (SeeM.view l) W ∧ SeeM.VQ w5 w5.heap.size (fun _ => ⟨0, 0⟩) W) ⟨HV2.out.alloc _, (Below.refl _ _).alloc (Nat.le_refl _) _, Nat.le_refl _, Blk.new w5 (ETab fun _ => ⟨0, 0⟩) _⟩ ?_
      rintro W4 ⟨hw4, hq4⟩
      have HW4 := box hw4; have HQ4 := box hq4
      clear hw4 hq4
      obtain ⟨Q, HQQ⟩ : ∃ Q, Box (w5.heap.size = Q) := ⟨_, ⟨rfl⟩⟩
      rw [HQQ.out] at HQ4 ⊢
      go_wp2_with fail
      refine (HL.out W4 HW4.out.below).mono ?_
      rintro e w6 ⟨rfl, hb6⟩
      have HW6 := box (HW4.out.after hb6)
      have HQ6 := box (HQ4.out.after hb6)
      clear hb6 HW4 HQ4 HL
      have hidx := index_tab20 (fun it => SeeM.lastTo l it l.length)
      have hlenV : (SeeM.lastVals l).toArray.size = 20 := by rw [List.size_toArray]; exact Tab_len _ _
      have Hsz : Box ((Try.prog.info? 52).map (·.size) = some (SeeM.lastVals l).toArray.size) := ⟨by rw [hlenV]; kernel_rfl⟩
      have Hone : Box ((SeeM.lastVals l).toArray.all (·.oneCell') = true) := ⟨all_oneCell_toArray (by
        intro u hu
        unfold SeeM.lastVals Tab at hu
        obtain ⟨i, _, rfl⟩ := List.mem_map.1 hu
        rfl)⟩
      have Hold : Box (∀ cs : Array Value, cs.size = 20 → cs.size = (SeeM.lastVals l).toArray.size) := ⟨fun cs h => by rw [h, hlenV]⟩
      obtain ⟨L, HLL⟩ : ∃ L, Box (SeeM.lastVals l = L) := ⟨_, ⟨rfl⟩⟩
      change ∀ (k : Nat), k < 20 → ∀ w, (Instr.index 52 (.agg (SeeM.lastVals l).toArray) (.int .i64 (k : Int))).run Try.prog w = .ok (.int .i64 (SeeM.lastTo l k l.length)) w at hidx
      rw [HLL.out] at hidx Hsz Hone Hold ⊢
      have Hidx := box hidx
      clear hidx hlenV
      go_upto_region 12 with (refine wpList_store_new rfl 52 (.tmp 12) (.tmp 45) rfl L.toArray (by rfl) (by rfl) 52 _ Hsz.out (Hold.out _ rfl) Hone.out ?_)
      refine name_world (fun W => SeeM.VW w l P (P + 1) no nc ro (SeeM.readsTo l l.length) (SeeM.view l) W ∧ SeeM.VQ w5 Q (fun _ => ⟨0, 0⟩) W ∧ Blk W w6.heap.size 52 L) ⟨HW6.out.alloc _, HQ6.out.alloc _, Blk.new w6 L _⟩ ?_
      rintro W7 ⟨hw7, hq7, hl7⟩
      have HQ7 := box hq7; have HL7 := box hl7
      have HV7 : Box (SeeM.VW w l P (P + 1) no nc ro (SeeM.readsTo l l.length) (SeeM.view l) W7) := ⟨hw7⟩
      clear hw7 hq7 hl7 HW6 HQ6
      generalize w6.heap.size = LB at *
      go_wp2_with (refine wpList_load_row rfl 52 (.tmp 12) rfl LB (by rfl) 52 _ (0, 0) _ HL7.out Try.underlying52 rfl Hsz.out ?_)
      go_loopw [48] (fun t48 wx => ∃ k : Nat, k ≤ 20 ∧ t48 = .int .i64 (k : Int) ∧ Box (SeeM.VQ w5 Q (fun i => if i < k then SeeM.lastN l i else ⟨0, 0⟩) wx)) (fun t48 _ => 20 - (RowKit.intOf t48).toNat)
      case atStart => exact ⟨0, by omega, rfl, ⟨HQ7.out.congr (fun i _ => by simp)⟩⟩
      case round =>
        obtain ⟨j, hj, rfl, HQj⟩ := hrel
        clear HQ7 HL7
        by_cases hjt : j < 20
        · have hji : (j : Int) < 20 := by omega
          have hix := Hidx.out j hjt
          have hlr := SeeM.lastTo_range l j l.length
          have hv := HV2.out.after HQj.out.below
          have HAt := box (viewAt_any l (SeeM.lastTo l j l.length) P no nc wr hv.is hv.names hlr.1 (by omega))
          obtain ⟨⟨v0, v1⟩, HLN⟩ : ∃ p, Box (SeeM.nmOf l (SeeM.lastTo l j l.length) = p) := ⟨_, ⟨rfl⟩⟩
          rw [HLN.out] at HAt
          have HNx : Box (∀ wx, SeeM.VQ w5 Q (fun i => if i < j then SeeM.lastN l i else ⟨0, 0⟩) wx → SeeM.VQ w5 Q (fun i => if i < j + 1 then SeeM.lastN l i else ⟨0, 0⟩) ((wx.setCell ⟨Q, j * 2, none⟩ (.int .i64 v0)).setCell ⟨Q, j * 2 + 1, none⟩ (.int .i64 v1))) := ⟨fun wx h => (h.set hjt ⟨v0, v1⟩).congr (fun i _ => by
            unfold upd
            by_cases e : i = j
            · subst e
              rw [if_pos rfl, if_pos (by omega)]
              exact HLN.out.symm
            · rw [if_neg e]
              show (if i < j then SeeM.lastN l i else (⟨0, 0⟩ : EgM)) = if i < j + 1 then SeeM.lastN l i else ⟨0, 0⟩
              by_cases h : i < j
              · rw [if_pos h, if_pos (by omega)]
              · rw [if_neg h, if_neg (by omega)])⟩
          generalize SeeM.lastTo l j l.length = lt at *
          clear hv hlr
          go_wp2_with fail
          refine HAt.out.mono ?_
          rintro e w8 ⟨rfl, hb8⟩
          have HQ8 := box (HQj.out.after hb8)
          unfold nmV
          have f0 := HQ8.out.tab.frozen (j * 2)
          have f1 := HQ8.out.tab.frozen (j * 2 + 1)
          have hg := ETab_get (fun i => if i < j then SeeM.lastN l i else (⟨0, 0⟩ : EgM)) hjt
          have c0 := HQ8.out.tab.cell hg.1
          have c1 := HQ8.out.tab.cell hg.2
          clear hb8 hix HAt hg
          go_wp2_with fail
          go_roundw
          case rel => exact ⟨j + 1, hjt, by go_num, ⟨HNx.out _ HQ8.out⟩⟩
          case measure => simp [RowKit.intOf]; omega
        · obtain rfl : j = 20 := by omega
          have HQ9 : Box (SeeM.VQ w5 Q (SeeM.lastN l) wr) := ⟨HQj.out.congr (fun i hi => by rw [if_pos hi])⟩
          have HV9 := box (HV2.out.after HQj.out.below)
          have hMQ : P + 1 < Q := by have := HV2.out.map.lt; rw [← HQQ.out]; exact this
          have hRQ : w.heap.size < Q := by have := HV2.out.hP; omega
          clear HQj HV2
          have hlenE : ∀ f, (ETab f).toArray.size = 40 := fun f => by rw [List.size_toArray]; exact ETab_len f
          have HszE : Box ((Try.prog.info? 94).map (·.size) = some (ETab (SeeM.lastN l)).toArray.size) := ⟨by rw [hlenE]; kernel_rfl⟩
          have HoneE : Box ((ETab (SeeM.lastN l)).toArray.all (·.oneCell') = true) := ⟨all_oneCell_toArray (egVals_one _)⟩
          have HoldE : Box ((ETab fun _ => ⟨0, 0⟩).toArray.size = (ETab (SeeM.lastN l)).toArray.size) := ⟨by rw [hlenE, hlenE]⟩
          have HVE : Box (SeeM.VE w (P + 1) Q (SeeM.view l) (ETab (SeeM.lastN l)) (ETab fun _ => ⟨0, 0⟩) false wr) := ⟨⟨HV9.out.below, HV9.out.map, HQ9.out.tab, HV9.out.res⟩⟩
          have hMR : w.heap.size < P + 1 := by have := HV9.out.hP; omega
          clear hlenE HQ9 HV9
          obtain ⟨EL, HEL⟩ : ∃ EL, Box (ETab (SeeM.lastN l) = EL) := ⟨_, ⟨rfl⟩⟩
          obtain ⟨EZ, HEZ⟩ : ∃ EZ, Box ((ETab fun _ => ⟨0, 0⟩) = EZ) := ⟨_, ⟨rfl⟩⟩
          rw [HEL.out] at HszE HoneE HoldE HVE
          rw [HEZ.out] at HoldE HVE
          go_upto_region 17 with (fail)
          go_cut [2] (fun s2 wx => s2 = .map (some (P + 1)) ∧ SeeM.VE w (P + 1) Q (SeeM.view l) EL EZ true wx)
          case first =>
            obtain ⟨PV, HPV⟩ : ∃ PV : Nat → Option Value, Box (PV = fun i => ([some (.map (some (P + 1))), some (.agg EL.toArray), some (.map (some (P + 1))), none] : List (Option Value)).getD i none) := ⟨_, ⟨rfl⟩⟩
            refine wp_region_dagv (by kernel_rfl) (fun Lf vals wx => (∀ i v, PV i = some v → Lf.getD i false = true → vals i = v) ∧ SeeM.VE w (P + 1) Q (SeeM.view l) EL EZ (Lf.getD 3 false)  wx) (by kernel_rfl) ?_ ?_ ?_
            · refine ⟨fun i v _ h => absurd h (by simp [Array.getD_eq_getD_getElem?, Array.getElem?_replicate]; try (split <;> simp)), ?_⟩
              simp only [Array.getD_eq_getD_getElem?, Array.getElem?_replicate, List.size_toArray, List.length_cons, List.length_nil, Nat.reduceAdd, Nat.reduceLT, if_true, Option.getD_some]
              exact ⟨HVE.out.1.drew, HVE.out.2.1, HVE.out.2.2.1.drew, HVE.out.2.2.2.drew⟩
            · intro i hi o ho Lf vals b wx hat haft hL hR
              obtain ⟨hP, hS⟩ := hR
              have hco := hat.const
              have hkeep : ∀ i v, (PV i = some v ∨ PV i = none) → Lf.getD i true = false → (∀ j u, PV j = some u → (Lf.setIfInBounds i true).getD j false = true → Dag.turn vals i v j = u) := fun i v hv hL j u hu hj => by
                by_cases e : j = i
                · subst e; rw [Dag.turn_same]; rcases hv with hv | hv <;> rw [hv] at hu <;> simp at hu; exact hu
                · rw [Dag.turn_other _ _ e]; rw [getD_set_ne false (Ne.symm e)] at hj; exact hP j u hu hj
              have r6 : b.eval (.tmp 6) = .map (some (P + 1)) := hat.old 6 (by
                intro j o' hj
                match j with
                | 0 | 1 | 2 | 3 => injection hj with hj; subst hj; simp
                | j + 4 => cases hj)
              have r11 : b.eval (.tmp 11) = .pointer (some ⟨Q, 0, none⟩) := hat.old 11 (by
                intro j o' hj
                match j with
                | 0 | 1 | 2 | 3 => injection hj with hj; subst hj; simp
                | j + 4 => cases hj)
              have r3 : b.eval (.tmp 3) = .pointer (some ⟨w.heap.size, 0, none⟩) := hat.old 3 (by
                intro j o' hj
                match j with
                | 0 | 1 | 2 | 3 => injection hj with hj; subst hj; simp
                | j + 4 => cases hj)
              match i, hi with
              | 0, _ =>
                injection ho with ho
                subst ho
                refine Dag.yields (w' := wx) (.map (some (P + 1))) ?_ ⟨.map (some (P + 1)), rfl, hkeep 0 _ (Or.inl (by rw [HPV.out]; rfl)) hL, ?_⟩
                · clear hP hS hat haft hkeep hL
                  generalize b.eval = ρ at *
                  go_simp
                · simp only [getD_set_ne false (show 0 ≠ 3 by decide)]
                  exact hS
              | 1, _ =>
                injection ho with ho
                subst ho
                refine wp_load_row 94 (.tmp 11) rfl Q r11 94 _ (0, 0) _ hS.2.2.1 Try.underlying94 rfl HszE.out ⟨_, rfl, hkeep 1 _ (Or.inl (by rw [HPV.out]; rfl)) hL, ?_⟩
                simp only [getD_set_ne false (show 1 ≠ 3 by decide)]
                exact hS
              | 2, _ =>
                injection ho with ho
                subst ho
                have e58 : b.eval (.tmp 58) = .map (some (P + 1)) := (hat.new 0 _ 58 (haft ⟨0, .data⟩ (by simp) rfl) rfl rfl).trans (hP 0 _ (by rw [HPV.out]; rfl) (haft ⟨0, .data⟩ (by simp) rfl))
                refine Dag.yields (w' := wx) (.map (some (P + 1))) ?_ ⟨.map (some (P + 1)), rfl, hkeep 2 _ (Or.inl (by rw [HPV.out]; rfl)) hL, ?_⟩
                · clear hP hS hat haft hkeep hL
                  generalize b.eval = ρ at *
                  go_simp
                · simp only [getD_set_ne false (show 2 ≠ 3 by decide)]
                  exact hS
              | 3, _ =>
                injection ho with ho
                subst ho
                have e59 : b.eval (.tmp 59) = .agg EL.toArray := (hat.new 1 _ 59 (haft ⟨1, .data⟩ (by simp) rfl) rfl rfl).trans (hP 1 _ (by rw [HPV.out]; rfl) (haft ⟨1, .data⟩ (by simp) rfl))
                have hf : Lf.getD 3 false = false := Dag.off hL
                rw [hf] at hS
                have hS' := hS.put hMR hRQ
                have hz := hS.2.2.2
                rw [if_neg (by simp)] at hz
                refine wp_store_row 94 (.tmp 3) (.tmp 59) rfl w.heap.size EL.toArray r3 e59 94 EZ.toArray hz HszE.out HoldE.out HoneE.out ⟨_, rfl, hkeep 3 _ (Or.inr (by rw [HPV.out]; rfl)) hL, ?_⟩
                rw [Dag.on hL]
                exact hS'
              | i + 4, h => exact absurd h (by simp)
            · intro Lf vals wx hall hR
              obtain ⟨hP, hS⟩ := hR
              simp only [hall 3 (by simp)] at hS
              have u0 := hP 0 _ (by rw [HPV.out]; rfl) (hall 0 (by simp))
              have u1 := hP 1 _ (by rw [HPV.out]; rfl) (hall 1 (by simp))
              have u2 := hP 2 _ (by rw [HPV.out]; rfl) (hall 2 (by simp))
              simp only [Dag.all, List.size_toArray, List.length_cons, List.length_nil, Nat.reduceAdd, Act.put, List.getElem?_toArray, List.getElem?_cons_zero, List.getElem?_cons_succ, Option.bind_some, List.setIfInBounds_toArray, List.set_cons_zero, List.set_cons_succ]
              rw [u0, u1, u2]
              have hfin := hS
              clear hP hS hall
              go_wp2_with fail
              go_meet
              exact ⟨rfl, hfin⟩
          case rest =>
            obtain ⟨rfl, hve⟩ := hcut
            have HVf := box hve
            clear hve
            go_wp2_with fail
            refine bodyPost_ret (v := .tuple #[.map (some (P + 1)), .agg EL.toArray]) (?_) rfl ⟨HVf.out.1, P + 1, by rw [HEL.out], by omega, HVf.out.2.1⟩
            have hres := HVf.out.2.2.2
            rw [if_pos rfl] at hres
            refine results_tmp_row (by rfl) _ _ w.heap.size 94 EL.toArray (0, 0) _ ?_ hres Try.underlying94 rfl HszE.out _ ?_
            · rfl
            · rfl
end Go.Proofs.Ytnhhjjhhicmfpaa
