/- hope.Check: what it answers. -/
import Derived.Test.YtlmibgjflgkalaaHopeW
namespace Go.Proofs.Ytlmibgjflgkalaa
open Go.RowKit Go.Lib

theorem HopeM.code_at (L : List TryL) {k : Nat} (h : k < L.length) : HopeM.code (TryL.plain L) k = if HopeM.one L[k].t ≠ 0 then HopeM.one L[k].t else if 0 < k ∧ L[k].t.en ≤ (L[k - 1]'(by omega)).t.en then 4 else 0 := by
  unfold HopeM.code
  have h1 := TryL.plain_get L h
  have h2 := TryL.plain_get L (k := k - 1) (by omega)
  rw [dif_pos (by rw [TryL.plain_len]; exact h)]
  rw [h1, h2]
theorem HopeM.chk_bad {l : List TryM} (hl : ¬ 40 < l.length) {k : Nat} (hk : k < l.length) (h0 : HopeM.upto l k = 0) {c : Int} (hc : HopeM.code l k = c) (hne : c ≠ 0) : HopeM.chk l = c := by
  have h1 : HopeM.upto l (k + 1) = c := by
    rw [show HopeM.upto l (k + 1) = if HopeM.upto l k ≠ 0 then HopeM.upto l k else HopeM.code l k from rfl, if_neg (by simpa using h0), hc]
  unfold HopeM.chk
  rw [if_neg hl, HopeM.upto_stays l (by rw [h1]; exact hne) l.length (by omega), h1]
theorem HopeM.upto_next {l : List TryM} {k : Nat} (h0 : HopeM.upto l k = 0) (hc : HopeM.code l k = 0) : HopeM.upto l (k + 1) = 0 := by
  rw [show HopeM.upto l (k + 1) = if HopeM.upto l k ≠ 0 then HopeM.upto l k else HopeM.code l k from rfl, if_neg (by simpa using h0), hc]

set_option maxRecDepth 20000 in
set_option maxHeartbeats 8000000 in
theorem hopeCheck_any (L : List TryL) (ao : Option Addr) (cap : Nat) (w : World) (h : TriesAt w ao L) (hn : L.length ≤ 9000000000000) :
    Calls Try.prog 40 #[.slice ao L.length cap] w fun e w' => e = .returned (.int .i64 (HopeM.chk (TryL.plain L))) ∧ Below w.heap.size w w' := by
  have H := box h
  clear h
  cases d1 : decide ((40 : Int) < (L.length : Int)) with
  | true =>
    have HR : Box (HopeM.chk (TryL.plain L) = 2) := ⟨by simp at d1; unfold HopeM.chk; rw [if_pos (by rw [TryL.plain_len]; omega)]⟩
    go_enter Try.func40, Try.ntmps40
    go_wp2_with fail
    go_ret
    exact ⟨by rw [HR.out]; rfl, Below.refl _ _⟩
  | false =>
  have hl40 : ¬ 40 < (TryL.plain L).length := by rw [TryL.plain_len]; simp at d1; omega
  have Hl40 := box hl40
  clear hl40
  go_enter Try.func40, Try.ntmps40
  go_wp2_with fail
  go_loopw [12] (fun t12 wr => ∃ k : Nat, k ≤ L.length ∧ t12 = .int .i64 (k : Int) ∧ Box (HopeM.upto (TryL.plain L) k = 0) ∧ Box (Below w.heap.size w wr)) (fun t12 _ => L.length - (intOf t12).toNat)
  case atStart => exact ⟨0, Nat.zero_le _, rfl, ⟨rfl⟩, ⟨Below.refl _ _⟩⟩
  case round =>
    obtain ⟨k, hk, rfl, Hu, Hb⟩ := hrel
    by_cases hlt : k < L.length
    case neg =>
      have hkl : k = L.length := by omega
      have HE : Box (HopeM.chk (TryL.plain L) = 0) := ⟨by
        unfold HopeM.chk
        rw [if_neg Hl40.out, TryL.plain_len, ← hkl, Hu.out]⟩
      go_wp2_with fail
      go_ret
      exact ⟨by rw [HE.out]; rfl, Hb.out⟩
    have HLr := box (H.out.below Hb.out (Nat.le_refl _))
    obtain ⟨b, off, rfl, hb, hrow⟩ := (HLr.out.row.resolve_left (by intro h; rw [h] at hlt; simp at hlt))
    have Hprev : Box (∀ j, j < L.length → ∀ h : j < L.length, wr.cell? ⟨b, off + j * 4 + 1, none⟩ = some (.int .i64 L[j].t.en)) := ⟨fun j _ h => (hrow j h).2.1⟩
    obtain ⟨hc0, hc1, hc2, hc3⟩ := hrow k hlt
    have Hbad : Box (∀ c, c ≠ 0 → HopeM.one L[k].t = c → HopeM.chk (TryL.plain L) = c) := ⟨fun c hne h => HopeM.chk_bad Hl40.out (by rw [TryL.plain_len]; exact hlt) Hu.out (by rw [HopeM.code_at L hlt, if_pos (by rw [h]; exact hne), h]) hne⟩
    have Hbad4 : Box (HopeM.one L[k].t = 0 → 0 < k → L[k].t.en ≤ (L[k - 1]'(by omega)).t.en → HopeM.chk (TryL.plain L) = 4) := ⟨fun h1 h2 h3 => HopeM.chk_bad Hl40.out (by rw [TryL.plain_len]; exact hlt) Hu.out (by rw [HopeM.code_at L hlt, if_neg (by simpa using h1), if_pos ⟨h2, h3⟩]) (by decide)⟩
    have Hgood : Box (HopeM.one L[k].t = 0 → ¬ (0 < k ∧ L[k].t.en ≤ (L[k - 1]'(by omega)).t.en) → HopeM.upto (TryL.plain L) (k + 1) = 0) := ⟨fun h1 h2 => HopeM.upto_next Hu.out (by rw [HopeM.code_at L hlt, if_neg (by simpa using h1), if_neg h2])⟩
    have HS := box (HLr.out.sl _ (List.getElem_mem hlt))
    have hbs := Hb.out.size
    clear hrow
    generalize L[k] = x at *
    obtain ⟨⟨st, en, rd, wrs⟩, ra, rc, wa, wc⟩ := x
    simp only at hc0 hc1 hc2 hc3 Hbad Hbad4 Hgood
    go_upto_region 6 with (fail)
    refine name_world (fun W => Below wr.heap.size wr W ∧ Blk W wr.heap.size 84 [.int .i64 st, .int .i64 en, .slice ra rd.length rc, .slice wa wrs.length wc]) ⟨(Below.refl _ _).alloc (Nat.le_refl _) _, Blk.new _ _ _⟩ ?_
    rintro W ⟨hbW, hkW⟩
    have HbW := box (Hb.out.trans (hbW.mono hbs))
    have HKW := box hkW
    have HSW := box (HS.out.below hbW (Nat.le_refl _))
    have HprevW : Box (∀ j (h : j < L.length), W.cell? ⟨b, off + j * 4 + 1, none⟩ = some (.int .i64 L[j].t.en)) := ⟨fun j h => (hbW.cell (p := ⟨b, off + j * 4 + 1, none⟩) hb).trans (Hprev.out j h h)⟩
    have y0 := hkW.cell (i := 0) rfl
    have y1 := hkW.cell (i := 1) rfl
    have y2 := hkW.cell (i := 2) rfl
    have y3 := hkW.cell (i := 3) rfl
    have hBW := hkW.lt
    have hWb : b < W.heap.size := Nat.lt_of_lt_of_le hb hbW.size
    obtain ⟨B, HBx⟩ : ∃ B, Box (wr.heap.size = B) := ⟨_, ⟨rfl⟩⟩
    rw [HBx.out] at y0 y1 y2 y3 HKW hBW ⊢
    clear hbW hkW hc0 hc1 hc2 hc3 Hprev
    cases b1 : decide (st < 0) with
    | true =>
      have HF := box (Hbad.out 1 (by decide) (by unfold HopeM.one; rw [if_pos (Or.inl (by simpa using b1))]))
      clear Hgood Hbad Hbad4
      go_wp2_with fail
      go_ret
      exact ⟨by rw [HF.out]; rfl, HbW.out⟩
    | false =>
    cases b2 : decide (en ≤ st) with
    | true =>
      have HF := box (Hbad.out 1 (by decide) (by unfold HopeM.one; rw [if_pos (Or.inr (Or.inl (by simpa using b2)))]))
      clear Hgood Hbad Hbad4
      go_wp2_with fail
      go_ret
      exact ⟨by rw [HF.out]; rfl, HbW.out⟩
    | false =>
    cases b3 : decide ((100000 : Int) < en) with
    | true =>
      have HF := box (Hbad.out 1 (by decide) (by unfold HopeM.one; rw [if_pos (Or.inr (Or.inr (by simpa using b3)))]))
      clear Hgood Hbad Hbad4
      go_wp2_with fail
      go_ret
      exact ⟨by rw [HF.out]; rfl, HbW.out⟩
    | false =>
    have Hone1 : Box (HopeM.one ⟨st, en, rd, wrs⟩ = if 20 < rd.length ∨ 20 < wrs.length then 2 else if (rd ++ wrs).any HopeM.badT then 1 else 0) := ⟨by unfold HopeM.one; rw [if_neg (by simp at b1 b2 b3 ⊢; omega)]⟩
    cases b4 : decide ((20 : Int) < (rd.length : Int)) with
    | true =>
      have HF := box (Hbad.out 2 (by decide) (by rw [Hone1.out, if_pos (Or.inl (by simp at b4; omega))]))
      clear Hgood Hbad Hbad4
      go_wp2_with fail
      go_ret
      exact ⟨by rw [HF.out]; rfl, HbW.out⟩
    | false =>
    cases b5 : decide ((20 : Int) < (wrs.length : Int)) with
    | true =>
      have HF := box (Hbad.out 2 (by decide) (by rw [Hone1.out, if_pos (Or.inr (by simp at b5; omega))]))
      clear Hgood Hbad Hbad4
      go_wp2_with fail
      go_ret
      exact ⟨by rw [HF.out]; rfl, HbW.out⟩
    | false =>
    have Hone2 : Box (HopeM.one ⟨st, en, rd, wrs⟩ = if (rd ++ wrs).any HopeM.badT then 1 else 0) := ⟨by rw [Hone1.out, if_neg (by simp at b4 b5; omega)]⟩
    have hrl : rd.length ≤ 20 := by simp at b4; omega
    have hwl : wrs.length ≤ 20 := by simp at b5; omega
    have hC := Blk.new W [.slice ra rd.length rc, .slice wa wrs.length wc] 31
    go_wp2_with fail
    refine (concat_ints rd wrs W.heap.size 2 ra wa rc wc _ (hC.cell (i := 0) rfl) (hC.cell (i := 1) rfl) hC.lt (HSW.out.rd.below ((Below.refl _ _).alloc (Nat.le_refl _) _) (Nat.le_refl _)) (HSW.out.wr.below ((Below.refl _ _).alloc (Nat.le_refl _) _) (Nat.le_refl _)) HSW.out.rn HSW.out.wn (by omega) (by omega)).mono ?_
    rintro e w5 ⟨⟨v, rfl, hown⟩, hb5⟩
    have Hb5 := box (below_tr ((Below.refl W.heap.size W).alloc (Nat.le_refl _) (.cells #[.slice ra rd.length rc, .slice wa wrs.length wc] 31)) hb5)
    obtain ⟨vo, vc, rfl, _, hat5, _, _⟩ := IntsAt.own hown
    have HAT5 := box hat5
    obtain ⟨Z, HZ⟩ : ∃ Z, Box (rd ++ wrs = Z) := ⟨_, ⟨rfl⟩⟩
    rw [HZ.out] at HAT5 Hone2 ⊢
    have hZl : Z.length ≤ 40 := by rw [← HZ.out, List.length_append]; omega
    clear hown hb5 hat5 hC
    go_wp2_with fail
    go_loopw [49] (fun t49 wx => ∃ j : Nat, j ≤ Z.length ∧ t49 = .int .i64 (j : Int) ∧ Box (wx = w5) ∧ Box ((Z.drop j).any HopeM.badT = Z.any HopeM.badT)) (fun t49 _ => Z.length - (intOf t49).toNat)
    case atStart => exact ⟨0, Nat.zero_le _, rfl, ⟨rfl⟩, ⟨rfl⟩⟩
    case round =>
      obtain ⟨j, hj, rfl, Hw, Ha⟩ := hrel
      have hw5 := Hw.out
      subst hw5
      by_cases hltj : j < Z.length
      case pos =>
        obtain ⟨zb, zoff, rfl, hzb, hzrow⟩ := (HAT5.out.resolve_left (by intro h; rw [h] at hltj; simp at hltj))
        have hz0 := hzrow j hltj
        have Hone3 : Box (HopeM.badT Z[j] = true → HopeM.one ⟨st, en, rd, wrs⟩ = 1) := ⟨fun h => by
          rw [Hone2.out, if_pos]
          rw [← Ha.out, List.drop_eq_getElem_cons hltj, List.any_cons, h]; rfl⟩
        have Hnext : Box (HopeM.badT Z[j] = false → (Z.drop (j + 1)).any HopeM.badT = Z.any HopeM.badT) := ⟨fun h => by
          rw [← Ha.out, List.drop_eq_getElem_cons hltj, List.any_cons, h, Bool.false_or]⟩
        clear hzrow
        generalize Z[j] = z at *
        cases c1 : decide (z < 0) with
        | true =>
          have HF := box (Hbad.out 1 (by decide) (Hone3.out (by simp only [HopeM.badT, c1]; rfl)))
          clear Hgood Hbad Hbad4
          go_wp2_with fail
          go_ret
          exact ⟨by rw [HF.out]; rfl, HbW.out.trans (Hb5.out.mono HbW.out.size)⟩
        | false =>
        cases c2 : decide (20 ≤ z) with
        | true =>
          have HF := box (Hbad.out 1 (by decide) (Hone3.out (by simp only [HopeM.badT, c2]; simp)))
          clear Hgood Hbad Hbad4
          go_wp2_with fail
          go_ret
          exact ⟨by rw [HF.out]; rfl, HbW.out.trans (Hb5.out.mono HbW.out.size)⟩
        | false =>
          have HF := box (Hnext.out (by simp only [HopeM.badT, c1, c2]; rfl))
          clear Hgood Hbad Hbad4
          go_wp2_with fail
          go_roundw
          case rel => exact ⟨j + 1, hltj, by go_num, ⟨by simp⟩, HF⟩
          case measure => simp [intOf]; omega
      have HO1 : Box (HopeM.one ⟨st, en, rd, wrs⟩ = 0) := ⟨by
        rw [Hone2.out, if_neg]
        rw [← Ha.out, List.drop_of_length_le (by omega)]; simp⟩
      have HB5 := box (HbW.out.trans (Hb5.out.mono HbW.out.size))
      have z1 : wr.cell? ⟨B, 1, none⟩ = some (.int .i64 en) := (Hb5.out.cell (p := ⟨B, 1, none⟩) hBW).trans y1
      clear Hbad y0 y1 y2 y3
      cases k with
      | zero =>
        have HF := box (Hgood.out HO1.out (by omega))
        clear Hgood Hbad4
        go_wp2_with fail
        go_quiet (fail)
        go_wp2_with fail
        exact ⟨⟨1, hlt, by go_num, HF, ⟨hope_dN HB5.out _⟩⟩, by simp [intOf]; omega⟩
      | succ k =>
        have hk1 : k < L.length := by omega
        have z2 : wr.cell? ⟨b, off + k * 4 + 1, none⟩ = some (.int .i64 L[k].t.en) := (Hb5.out.cell (p := ⟨b, off + k * 4 + 1, none⟩) hWb).trans (HprevW.out k hk1)
        have e1 : k + 1 - 1 = k := by omega
        simp only [e1] at Hgood Hbad4
        generalize L[k].t.en = pe at *
        have w1 : IntKind.i64.wrap ((k : Int) + 1 - 1) = (k : Int) := by rw [show (k : Int) + 1 - 1 = (k : Int) by omega]; exact IntWalk.i64_in _ (by omega)
        have w2 : IntKind.i64.wrap (k : Int) = (k : Int) := IntWalk.i64_in _ (by omega)
        have hkL : (k : Int) < (L.length : Int) := by omega
        cases b6 : decide (en ≤ pe) with
        | true =>
          have HF := box (Hbad4.out HO1.out (by omega) (by simpa using b6))
          clear Hgood Hbad4
          go_wp2_with fail
          go_quiet (fail)
          go_wp2_with fail
          go_ret
          exact ⟨by rw [HF.out]; rfl, hope_dN HB5.out _⟩
        | false =>
          have HF := box (Hgood.out HO1.out (by simp at b6; omega))
          clear Hgood Hbad4
          go_wp2_with fail
          go_quiet (fail)
          go_wp2_with fail
          exact ⟨⟨k + 1 + 1, hlt, by go_num, HF, ⟨hope_dN HB5.out _⟩⟩, by simp [intOf]; omega⟩
end Go.Proofs.Ytlmibgjflgkalaa
