/- HopeSerial: its closure, slices.Equal over bools. -/
import Derived.Test.YtlmibgjflgkalaaLawKit
import Derived.Test.YtlmibgjflgkalaaHopeJ
import Derived.Test.YtlmibgjflgkalaaTriesOpen
import Derived.Deep.RegionHeld3
namespace Go.Proofs.Ytlmibgjflgkalaa
open Go.RowKit Go.Lib

set_option maxRecDepth 20000 in
set_option maxHeartbeats 2000000 in
theorem equalBools_any (l : List Bool) (g g' : Nat) (cap cap' : Nat) (w : World) (h : Blk w g 4 (l.map Value.bool)) (h' : Blk w g' 4 (l.map Value.bool)) (hn : l.length ≤ 9000000000000) :
    Calls Try.prog 39 #[.slice (some ⟨g, 0, none⟩) l.length cap, .slice (some ⟨g', 0, none⟩) l.length cap'] w fun e w' => e = .returned (.bool true) ∧ ∃ n, w' = w.drewN n := by
  have H := box h; have H' := box h'
  clear h h'
  have q0 : ((l.length : Int) == (l.length : Int)) = true := by simp
  go_enter Try.func39, Try.ntmps39
  go_wp2_with fail
  go_loopw [13] (fun t13 wr => ∃ k n : Nat, wr = w.drewN n ∧ k ≤ l.length ∧ t13 = .int .i64 (k : Int)) (fun t13 _ => l.length - (intOf t13).toNat)
  case atStart => exact ⟨0, 0, rfl, Nat.zero_le _, rfl⟩
  case round =>
    obtain ⟨k, n0, rfl, hk, rfl⟩ := hrel
    by_cases hlt : k < l.length
    · have hc0 := H.out.cell (i := k) (v := .bool l[k]) (by simp [hlt])
      have hd0 := H'.out.cell (i := k) (v := .bool l[k]) (by simp [hlt])
      generalize l[k] = o at *
      cases o with
      | true =>
        go_wp2_with fail
        go_quiet (fail)
        go_wp2_with fail
        go_roundw
        case rel => exact ⟨k + 1, n0 + nq, rfl, hlt, by go_num⟩
        case measure => simp [intOf]; omega
      | false =>
        go_wp2_with fail
        go_quiet (fail)
        go_wp2_with fail
        go_roundw
        case rel => exact ⟨k + 1, n0 + nq, rfl, hlt, by go_num⟩
        case measure => simp [intOf]; omega
    · go_wp2_with fail
      go_ret
      exact ⟨rfl, n0, rfl⟩

theorem HopeM.isW_at (L : List TryL) (J : Nat → Bool) (item time : Int) {n : Nat} (h : n < L.length) : HopeM.isW (TryL.plain L) J item time n = (J n && (decide (L[n].t.en ≤ time) && decide (item ∈ L[n].t.wr))) := by
  unfold HopeM.isW
  rw [dif_pos (by rw [TryL.plain_len]; exact h), TryL.plain_get L h, HopeM.any_mem]

set_option maxRecDepth 20000 in
set_option maxHeartbeats 4000000 in
theorem hopeWriter_any (L : List TryL) (J : Nat → Bool) (ao : Option Addr) (cap g B1 B2 : Nat) (item time : Int) (w : World) (h : TriesAt w ao L) (hn : L.length ≤ 40) (hwl : ∀ x ∈ L, x.t.wr.length ≤ 20)
    (h1 : Blk w B1 79 [.slice ao L.length cap]) (h2 : Blk w B2 80 [.slice (some ⟨g, 0, none⟩) L.length L.length]) (hg : Blk w g 4 (Tab L.length fun k => .bool (J k))) :
    Calls Try.prog 41 (#[.int .i64 item, .int .i64 time] ++ #[.pointer (some ⟨B1, 0, none⟩), .pointer (some ⟨B2, 0, none⟩)]) w fun e w' => e = .returned (.int .i64 (HopeM.writer (TryL.plain L) J item time L.length)) ∧ Below w.heap.size w w' := by
  have H := box h; have H1 := box h1; have H2 := box h2; have HG := box hg; have HWL := box hwl
  have x1 := h1.cell (i := 0) rfl
  clear h h1 h2 hg hwl
  go_enter Try.func41, Try.ntmps41
  go_wp2_with fail
  clear x1
  go_loopw [7, 12] (fun t7 t12 wr => ∃ k : Nat, k ≤ L.length ∧ t12 = .int .i64 (k : Int) ∧ t7 = .int .i64 (HopeM.writer (TryL.plain L) J item time k) ∧ Box (Below w.heap.size w wr)) (fun _ t12 _ => L.length - (intOf t12).toNat)
  case atStart => exact ⟨0, Nat.zero_le _, rfl, rfl, ⟨Below.refl _ _⟩⟩
  case round =>
    obtain ⟨k, hk, rfl, rfl, Hb⟩ := hrel
    by_cases hlt : k < L.length
    case neg =>
      have hkL : k = L.length := by omega
      subst hkL
      go_wp2_with fail
      go_ret
      exact ⟨rfl, Hb.out⟩
    have HLr := box (H.out.below Hb.out (Nat.le_refl _))
    obtain ⟨b, off, rfl, hb, hrow⟩ := (HLr.out.row.resolve_left (by intro h; rw [h] at hlt; simp at hlt))
    obtain ⟨hc0, hc1, hc2, hc3⟩ := hrow k hlt
    have HS := box (HLr.out.sl _ (List.getElem_mem hlt))
    have hwl := HWL.out _ (List.getElem_mem hlt)
    have HW : Box (HopeM.writer (TryL.plain L) J item time (k + 1) = if HopeM.isW (TryL.plain L) J item time k = true then (k : Int) else HopeM.writer (TryL.plain L) J item time k) := ⟨rfl⟩
    rw [HopeM.isW_at L J item time hlt] at HW
    obtain ⟨q1, HQ1⟩ : ∃ q, Box (HopeM.writer (TryL.plain L) J item time (k + 1) = q) := ⟨_, ⟨rfl⟩⟩
    rw [HQ1.out] at HW
    have z2 := (H2.out.after Hb.out).cell (i := 0) rfl
    have z3 := (HG.out.after Hb.out).tabCell hlt
    have hl2 := (H2.out.after Hb.out).lt
    have hlg := (HG.out.after Hb.out).lt
    generalize HopeM.writer (TryL.plain L) J item time k = q0 at *
    generalize J k = jk at *
    have hbs := Hb.out.size
    clear hrow
    generalize L[k] = x at *
    obtain ⟨⟨st, en, rd, wrs⟩, ra, rc, wa, wc⟩ := x
    simp only at hc0 hc1 hc2 hc3 HW hwl
    go_upto_region 5 with (fail)
    refine name_world (fun W => Below wr.heap.size wr W ∧ Blk W wr.heap.size 84 [.int .i64 st, .int .i64 en, .slice ra rd.length rc, .slice wa wrs.length wc]) ⟨(Below.refl _ _).alloc (Nat.le_refl _) _, Blk.new _ _ _⟩ ?_
    rintro W ⟨hbW, hkW⟩
    have HbW := box (Hb.out.trans (hbW.mono hbs))
    have HSW := box (HS.out.below hbW (Nat.le_refl _))
    have y1 := hkW.cell (i := 1) rfl
    have y3 := hkW.cell (i := 3) rfl
    have v2 : W.cell? ⟨B2, 0, none⟩ = some (.slice (some ⟨g, 0, none⟩) L.length L.length) := (hbW.cell (p := ⟨B2, 0, none⟩) hl2).trans z2
    have v3 : W.cell? ⟨g, k, none⟩ = some (.bool jk) := (hbW.cell (p := ⟨g, k, none⟩) hlg).trans z3
    obtain ⟨B, HBx⟩ : ∃ B, Box (wr.heap.size = B) := ⟨_, ⟨rfl⟩⟩
    rw [HBx.out] at y1 y3 ⊢
    clear hbW hkW hc0 hc1 hc2 hc3 z2 z3
    cases jk with
    | false =>
      have HF : Box (q1 = q0) := ⟨by rw [HW.out]; simp⟩
      go_wp2_with fail
      exact ⟨⟨k + 1, hlt, by go_num, by rw [HQ1.out, HF.out], HbW⟩, by simp [intOf]; omega⟩
    | true =>
    cases b1 : decide (en ≤ time) with
    | false =>
      rw [b1] at HW
      have HF : Box (q1 = q0) := ⟨by rw [HW.out]; simp⟩
      go_wp2_with fail
      exact ⟨⟨k + 1, hlt, by go_num, by rw [HQ1.out, HF.out], HbW⟩, by simp [intOf]; omega⟩
    | true =>
    rw [b1] at HW
    have HC := box (contains_ints wrs item wa wc W HSW.out.wr (by omega))
    obtain ⟨mt, Hmt⟩ : ∃ q, Box (decide (item ∈ wrs) = q) := ⟨_, ⟨rfl⟩⟩
    rw [Hmt.out] at HW HC
    go_wp2_with fail
    refine HC.out.mono ?_
    rintro e w5 ⟨rfl, rfl⟩
    cases mt with
    | false =>
      have HF : Box (q1 = q0) := ⟨by rw [HW.out]; simp⟩
      go_wp2_with fail
      exact ⟨⟨k + 1, hlt, by go_num, by rw [HQ1.out, HF.out], HbW⟩, by simp [intOf]; omega⟩
    | true =>
      have HF : Box (q1 = (k : Int)) := ⟨by rw [HW.out]; simp⟩
      go_wp2_with fail
      exact ⟨⟨k + 1, hlt, by go_num, by rw [HQ1.out, HF.out], HbW⟩, by simp [intOf]; omega⟩
end Go.Proofs.Ytlmibgjflgkalaa
