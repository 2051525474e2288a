/- WalBack's walk. -/
import Derived.Test.YtpeaefeoogcepaaDoorWalK
import Derived.Test.YtpeaefeoogcepaaDoorWalB
import Derived.Test.YtpeaefeoogcepaaDoorFront
namespace Go.Proofs.YtpeaefeoogcepaaDoor
open Go.RowKit Go.Lib
open WalM

namespace WalM
theorem strs_own {w : World} {B : Nat} {v : Value} {ts : List (List UInt8)} (h : w.ownsRow B 9 1 v ts.length (secVals ts)) : ∃ (g : Option Addr) (gc : Nat), v = .slice g ts.length gc := by
  rcases h.2 with ⟨h, h0⟩ | ⟨g, cap, cur, h, _⟩
  · exact ⟨none, 0, by rw [h, h0]⟩
  · exact ⟨_, _, h⟩
theorem strs_at {w : World} {B : Nat} {g : Option Addr} {n c : Nat} {ts : List (List UInt8)} (h : w.ownsRow B 9 1 (.slice g n c) ts.length (secVals ts)) : StrsAt w g (ts.map BA) := by
  rcases h.2 with ⟨h1, h0⟩ | ⟨g', cap, cur, h1, hlt, hg, _⟩
  · left
    rw [List.length_eq_zero_iff.1 h0]; rfl
  · right
    injection h1 with h1 h2 h3
    subst h1 h2 h3
    refine ⟨g', 0, rfl, (Array.getElem?_eq_some_iff.1 hg).1, fun k hk => ?_⟩
    rw [List.length_map] at hk
    have := h.cellAt k (by omega)
    rw [Nat.zero_add, this]
    unfold secVals
    rw [List.getElem?_map, List.getElem?_eq_getElem hk, List.getElem_map]
    rfl
end WalM
set_option maxRecDepth 20000 in
set_option maxHeartbeats 8000000 in
theorem walBack_calls (L : List ByteArray) (ao : Option Addr) (cap : Nat) (w : World) (h : StrsAt w ao L) (hsz : ∀ s ∈ L, s.size ≤ 9223372036854775807) (hlen : L.length ≤ 9000000000000) :
    Calls Tryd.prog 3 #[.slice ao L.length cap] w fun e w' => e = .returned (.bool true) ∧ Below w.heap.size w w' := by
  have H := box h
  have HLg := box (logged_any w)
  obtain ⟨i0, hi0, hz0, hz1, hz2⟩ := info_parts Tryd.infoStrW
  clear h
  go_enter Tryd.func3, Tryd.ntmps3
  go_wp2_with fail
  refine HLg.out.mono ?_
  rintro e w1 ⟨D, Lb, vs, ve, vl, d, l, rfl, hn, hl, hep, hb1, hin⟩
  have HI := box (show InvB d l [] from ⟨hn, hl, hep⟩)
  have HB1 := box hb1
  have HL1 := box hin
  clear hn hl hep hb1 hin HLg
  have hat := HI.out.norm.at_le
  have hla := HI.out.norm.late
  have HA1 := box (walAppend_any HL1.out (by have := HI.out.ep; unfold I64; omega) (by rw [HI.out.norm.frm, HI.out.norm.size]; omega) (by omega) (by have h3 := HI.out.norm.is; obtain ⟨old, new, k, O, hj, _, h4, h5, _⟩ := h3; have := stop_le 1 0 (old ++ new); omega) (by omega) [97] (by decide))
  clear hat hla
  go_wp2_with fail
  refine HA1.out.mono ?_
  have HA := box (HI.out.append [97] rfl)
  have HFi := box (HI.out.norm.first HI.out.left)
  clear HA1
  obtain ⟨⟨d2, l2, e2⟩, hx⟩ : ∃ x, appendM d l [97] = x := ⟨_, rfl⟩
  rw [hx] at HA HFi ⊢
  clear hx
  rintro e w2 ⟨rfl, vl2, hm⟩
  have he : e2 = 0 := HFi.out
  subst he
  have HI2 : Box (InvB d2 l2 [[97]]) := ⟨by
    rcases HA.out with ⟨_, h, _⟩ | ⟨h, _⟩
    · exact h
    · exact absurd h (by show ¬ ((0 : Int) = 2 ∨ (0 : Int) = 8); decide)⟩
  have HL2 : Box (LogIn w2 w.heap.size D vs ve vl2 d2 24 Lb l2) := ⟨hm.in_ HL1.out HI2.out.norm.good (by have := HI2.out.norm.late; have := HI2.out.norm.at_le; show d2.late.length ≤ 1000000; omega)⟩
  have HB2 : Box (Below w.heap.size w w2) := ⟨HB1.out.trans (hm.kept.below HB1.out.size (fun b hb => (HL1.out.turns_lt hb).1))⟩
  clear hm HA HFi HI HL1 HB1
  go_upto_region 5 with (fail)
  refine name_world (fun W => ∃ v, v = .slice (some ⟨w2.heap.size, 0, none⟩) 1 1 ∧ Below w.heap.size w W ∧ LogRow W w.heap.size D Lb vs ve vl2 d2 l2 w.heap.size v [[97]])
    ⟨_, rfl, HB2.out.alloc HB2.out.size _, HL2.out.below ((Below.refl _ _).alloc (Nat.le_refl _) _), World.ownsRow_lit (base := w.heap.size) (e := 9) (size := 1) w2 #[.string (BA [97])] 1 HB2.out.size (by decide) rfl, fun b hb hm => ?_⟩ ?_
  · have := (HL2.out.turns_lt hm).2
    simp [Value.ownBlock] at hb
    omega
  rintro W ⟨v, hv, hbW, hrW⟩
  have HBW := box hbW
  have HRW := box hrW
  clear hbW hrW HL2 HB2
  rw [← hv]
  clear hv
  go_wp2_with fail
  go_loopg [6, 28] L.length (fun f t6 t28 wr => ∃ (k : Nat) (d3 : DiskM) (l3 : LogM) (vl3 u : Value) (ts : List (List UInt8)), t6 = u ∧ t28 = .int .i64 (k : Int) ∧ f + k = L.length ∧ Box (InvB d3 l3 ts ∧ Below w.heap.size w wr ∧ LogRow wr w.heap.size D Lb vs ve vl3 d3 l3 w.heap.size u ts))
  case atStart => exact ⟨0, d2, l2, vl2, _, [[97]], rfl, rfl, by omega, ⟨HI2.out, HBW.out, HRW.out⟩⟩
  case round =>
    obtain ⟨k, d3, l3, vl3, u, ts, rfl, rfl, hf, HX⟩ := hrel
    clear HI2 HBW HRW
    have HI := box HX.out.1
    have HB := box HX.out.2.1
    have HR := box HX.out.2.2
    clear HX
    by_cases hk : k < L.length
    case neg =>
      obtain rfl : k = L.length := by omega
      obtain ⟨d4, l4, ho⟩ := HI.out.told
      have HO := box (walOpen_any wr w.heap.size D vs ve vl3 d3 24 HR.out.log.at_ HR.out.log.good HR.out.log.bs (by omega) (by omega) (by have := HI.out.left; omega) (by have := HI.out.norm.late; have := HI.out.norm.at_le; omega) 2 20 (by omega) (by omega))
      rw [ho] at HO
      clear ho
      go_wp2_with fail
      refine HO.out.mono ?_
      rintro e w5 ⟨vl5, hm, Lb5, v5, rfl, _, _, _, hown⟩
      have HM := box hm
      have HO5 := box hown
      have HU5 := box (HM.out.kept.own HR.out.own (fun b hb hx => HR.out.ap b hb (Or.inr hx)))
      clear hm hown HO
      obtain ⟨g5, c5, rfl⟩ := strs_own HO5.out
      obtain ⟨g6, c6, rfl⟩ := strs_own HU5.out
      have HB5 : Box (Below w.heap.size w w5) := ⟨HB.out.trans (HM.out.kept.below HR.out.log.bs (fun b hb => (HR.out.log.at_.mine_lt hb).1))⟩
      have hts : ts.length ≤ 9000000000000000000 := by
        obtain ⟨old, new, k, O, hj, _, h4, h5, h6, _⟩ := HI.out.norm.is
        have := hj.fit
        have := stop_le 1 0 (old ++ new)
        rw [h6, List.length_map]; omega
      have HEq := box (equalStrs_any (ts.map BA) (ts.map BA) g5 g6 c5 c6 w5 (strs_at HO5.out) (strs_at HU5.out) (by rw [List.length_map]; exact hts) (by rw [List.length_map]; exact hts))
      rw [List.length_map, decide_eq_true rfl] at HEq
      generalize ts.length = N at *
      clear HM HO5 HU5
      go_wp2_with fail
      refine HEq.out.mono ?_
      rintro e w6 ⟨rfl, n6, rfl⟩
      have HB6 : Box (Below w.heap.size w (w5.drewN n6)) := ⟨HB5.out.trans ⟨rfl, rfl, rfl, Nat.le_refl _, fun _ _ => rfl⟩⟩
      go_wp2_with fail
      go_ret
      exact ⟨rfl, HB6.out⟩
    obtain ⟨b0, off, rfl, _, hrow⟩ := ((H.out.below HB.out (Nat.le_refl _)).resolve_left (by intro h; rw [h] at hk; simp at hk))
    have hc0 := hrow k hk
    have hsk := hsz L[k] (List.getElem_mem hk)
    clear hrow
    generalize L[k] = s at *
    obtain ⟨t, rfl⟩ : ∃ t, s = BA t := ⟨s.data.toList, (BA_of s).symm⟩
    have hat := HI.out.norm.at_le
    have hfs := HI.out.norm.size
    have HRo := box (fun (wx : World) (h : Blk wx Lb 45 (logCells D l3)) => walRoom_any wx D Lb l3 h (by omega) (by omega))
    go_wp2_with fail
    refine (HRo.out _ HR.out.log.log).mono ?_
    rintro e w3 ⟨rfl, n3, rfl⟩
    have hd3 : Below wr.heap.size wr (wr.drewN n3) := ⟨rfl, rfl, rfl, Nat.le_refl _, fun _ _ => rfl⟩
    have HR3 := box (HR.out.below hd3)
    have HB3 := box (below_tr HB.out hd3)
    clear hd3 HR HB
    have HAp := box (walAppend_any HR3.out.log (by have := HI.out.ep; unfold I64; omega) (by rw [HI.out.norm.frm, hfs]; omega) (by omega) (by have h3 := HI.out.norm.is; obtain ⟨old, new, k, O, hj, _, h4, h5, _⟩ := h3; have := stop_le 1 0 (old ++ new); omega) (by have := HI.out.norm.late; omega) t (by rw [BA_size] at hsk; exact hsk))
    have HAn := box (HI.out.append t rfl)
    obtain ⟨⟨d4, l4, e4⟩, hx⟩ : ∃ x, appendM d3 l3 t = x := ⟨_, rfl⟩
    rw [hx] at HAp HAn
    clear hx
    dsimp only at HAp HAn
    go_wp2_with fail
    refine HAp.out.mono ?_
    rintro e w4 ⟨rfl, vl4, hm⟩
    have HM := box hm
    clear hm HAp
    have hgl : SectM.Good 24 d4 ∧ d4.late.length ≤ 1000000 ∧ l4.size = 20 ∧ l4.at_ ≤ 20 := by
      rcases HAn.out with ⟨_, h, _⟩ | ⟨_, h, _⟩
      · have := h.norm.late; have := h.norm.at_le; exact ⟨h.norm.good, by omega, h.norm.size, by omega⟩
      · have := h.norm.late; have := h.norm.at_le; exact ⟨h.norm.good, by omega, h.norm.size, by omega⟩
    have HR4 := box (HR3.out.moved HM.out hgl.1 hgl.2.1)
    have HB4 : Box (Below w.heap.size w w4) := ⟨HB3.out.trans (HM.out.kept.below HR3.out.log.bs (fun b hb => (HR3.out.log.turns_lt hb).1))⟩
    have HRo4 := box (fun (wx : World) (h : Blk wx Lb 45 (logCells D l4)) => walRoom_any wx D Lb l4 h (by omega) (by omega))
    have hs4 := hgl.2.2.1
    have ha4 := hgl.2.2.2
    clear hgl HM HR3 HB3 HRo hc0
    rcases HAn.out with ⟨h1, h2, h3⟩ | ⟨h1, h2, h3⟩
    · have h1 : e4 = 0 := h1
      subst h1
      have HI4 := box h2
      clear h2 HAn HI
      have hK : ts.length ≤ 20 := by
        obtain ⟨old, new, k', O, hj, _, h4, h5, h6, _⟩ := HI4.out.norm.is
        have := hj.fit
        have := stop_le 1 0 (old ++ new)
        have h7 := congrArg List.length h6
        rw [List.length_append, List.length_map] at h7
        simp only [List.length_singleton] at h7
        omega
      have hsz4 := HB4.out.size
      obtain ⟨ua, uc, rfl⟩ := strs_own HR4.out.own
      have HO4 := box HR4.out.own
      have HAp4 := box HR4.out.ap
      have HL4 := box HR4.out.log
      clear HR4
      obtain ⟨K, HK⟩ : ∃ x, Box (ts.length = x) := ⟨_, ⟨rfl⟩⟩
      rw [HK.out] at HO4 HAp4 hK ⊢
      have hown5 := HO4.out.alloc (.cells #[.string (BA t)] 9)
      have q3 : decide ((20 : Int) - (l3.at_ : Int) ≤ (20 : Int) - (l4.at_ : Int)) = false := decide_eq_false (by omega)
      have q4 : decide ((20 : Int) - (l4.at_ : Int) < 0) = false := decide_eq_false (by omega)
      rw [hs4] at HRo4
      go_wp2_with (at_builtin; go_must (refine wpList_append_lies _ rfl _ _ 22 rfl w.heap.size 9 i0 _ 1 16 Tryd.underlying22 hi0 hz0 hz1 hz2 rfl (by decide) _ _ _ rfl hown5 ⟨w4.heap.size, 0, none⟩ 1 1 [.string (BA t)] rfl rfl (cells_new w4 [.string (BA t)] 9) (by simp [Value.oneCell']) (by decide) (by unfold maxLen; omega) (by omega) (by simp; omega) (w4.heap.size + 1) (by simp) ?_))
      intro gg gcap w7 hown7 hgrow7 hat7 hlt7
      have HR7 : Box (LogRow w7 w.heap.size D Lb vs ve vl4 d4 l4 w.heap.size (.slice (some ⟨gg, 0, none⟩) (K + 1) gcap) (ts ++ [t])) := ⟨LogRow.push HL4.out HAp4.out hgrow7 hat7 hown7 (by have := HK.out; omega)⟩
      have HB7 : Box (Below w.heap.size w w7) := ⟨(HB4.out.alloc hsz4 _).grown hgrow7 (by simp; omega) (fun b hb => (HO4.out.lt b hb).1)⟩
      clear hown7 hgrow7 hat7 hlt7 hown5 HO4 HAp4 HL4 HB4 hsz4 HK
      go_wp2_with fail
      refine (HRo4.out _ HR7.out.log.log).mono ?_
      rintro e w5 ⟨rfl, n5, rfl⟩
      have hd5 : Below w7.heap.size w7 (w7.drewN n5) := ⟨rfl, rfl, rfl, Nat.le_refl _, fun _ _ => rfl⟩
      have HR5 := box (HR7.out.below hd5)
      have HB5 := box (below_tr HB7.out hd5)
      clear hd5 HR7 HB7
      go_wp2_with fail
      refine (HRo4.out _ HR5.out.log.log).mono ?_
      rintro e w6 ⟨rfl, n6, rfl⟩
      have hd6 : Below (w7.drewN n5).heap.size (w7.drewN n5) (w7.drewN (n5 + n6)) := ⟨rfl, rfl, rfl, Nat.le_refl _, fun _ _ => rfl⟩
      have HR6 := box (HR5.out.below hd6)
      have HB6 := box (below_tr HB5.out hd6)
      clear hd6 HR5 HB5
      go_wp2_with fail
      go_roundg (L.length - (k + 1))
      case measure => omega
      case rel => exact ⟨k + 1, d4, l4, vl4, _, ts ++ [t], rfl, by go_num, by omega, ⟨HI4.out, HB6.out, HR6.out⟩⟩
    · have HI4 := box h2
      clear h2 HAn HI
      have q3 : ((20 : Int) - (l4.at_ : Int) != (20 : Int) - (l3.at_ : Int)) = false := by rw [h3]; simp
      rw [hs4] at HRo4
      rcases h1 with h1 | h1
      · have h1 : e4 = 2 := h1
        subst h1
        go_wp2_with fail
        refine (HRo4.out _ HR4.out.log.log).mono ?_
        rintro e w5 ⟨rfl, n5, rfl⟩
        have hd5 : Below w4.heap.size w4 (w4.drewN n5) := ⟨rfl, rfl, rfl, Nat.le_refl _, fun _ _ => rfl⟩
        have HR5 := box (HR4.out.below hd5)
        have HB5 := box (below_tr HB4.out hd5)
        clear hd5 HR4 HB4
        go_wp2_with fail
        go_roundg (L.length - (k + 1))
        case measure => omega
        case rel => exact ⟨k + 1, d4, l4, vl4, _, ts, rfl, by go_num, by omega, ⟨HI4.out, HB5.out, HR5.out⟩⟩
      · have h1 : e4 = 8 := h1
        subst h1
        go_wp2_with fail
        refine (HRo4.out _ HR4.out.log.log).mono ?_
        rintro e w5 ⟨rfl, n5, rfl⟩
        have hd5 : Below w4.heap.size w4 (w4.drewN n5) := ⟨rfl, rfl, rfl, Nat.le_refl _, fun _ _ => rfl⟩
        have HR5 := box (HR4.out.below hd5)
        have HB5 := box (below_tr HB4.out hd5)
        clear hd5 HR4 HB4
        go_wp2_with fail
        go_roundg (L.length - (k + 1))
        case measure => omega
        case rel => exact ⟨k + 1, d4, l4, vl4, _, ts, rfl, by go_num, by omega, ⟨HI4.out, HB5.out, HR5.out⟩⟩
end Go.Proofs.YtpeaefeoogcepaaDoor
