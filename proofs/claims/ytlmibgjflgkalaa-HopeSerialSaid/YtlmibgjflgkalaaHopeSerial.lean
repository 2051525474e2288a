/- HopeSerial is proved for every input: no condition stands ahead of it. -/
import Derived.Test.YtlmibgjflgkalaaHopeL
namespace Go.Proofs.Ytlmibgjflgkalaa
open Go.RowKit Go.Lib

def HopeM.l2 (b1 b2 : Nat) : List TryL := [⟨⟨0, 2, [], [1]⟩, none, 0, some ⟨b1, 0, none⟩, 1⟩, ⟨⟨1, 3, [1], []⟩, some ⟨b2, 0, none⟩, 1, none, 0⟩]
theorem HopeM.l2_chk (b1 b2 : Nat) : HopeM.chk (TryL.plain (HopeM.l2 b1 b2)) = 0 := by
  show HopeM.chk [⟨0, 2, [], [1]⟩, ⟨1, 3, [1], []⟩] = 0
  decide
theorem HopeM.l2_js (b1 b2 : Nat) : (Tab 2 fun k => Value.bool (HopeM.js (TryL.plain (HopeM.l2 b1 b2)) 2 k)) = [.bool true, .bool false] := by
  show (Tab 2 fun k => Value.bool (HopeM.js [⟨0, 2, [], [1]⟩, ⟨1, 3, [1], []⟩] 2 k)) = _
  have h0 : HopeM.js [⟨0, 2, [], [1]⟩, ⟨1, 3, [1], []⟩] 2 0 = true := by decide
  have h1 : HopeM.js [⟨0, 2, [], [1]⟩, ⟨1, 3, [1], []⟩] 2 1 = false := by decide
  show [Value.bool (HopeM.js _ 2 0), Value.bool (HopeM.js _ 2 1)] = _
  rw [h0, h1]
theorem HopeM.l2_at (V : World) : TriesAt (((V.alloc (.cells #[.int .i64 1] 3)).alloc (.cells #[.int .i64 1] 3)).alloc (.cells #[.int .i64 0, .int .i64 2, .slice none 0 0, .slice (some ⟨V.heap.size, 0, none⟩) 1 1, .int .i64 1, .int .i64 3, .slice (some ⟨V.heap.size + 1, 0, none⟩) 1 1, .slice none 0 0] 84))
    (some ⟨V.heap.size + 2, 0, none⟩) (HopeM.l2 V.heap.size (V.heap.size + 1)) := by
  have k1 := (((Blk.new V [.int .i64 1] 3).alloc (.cells #[.int .i64 1] 3)).alloc (.cells #[.int .i64 0, .int .i64 2, .slice none 0 0, .slice (some ⟨V.heap.size, 0, none⟩) 1 1, .int .i64 1, .int .i64 3, .slice (some ⟨V.heap.size + 1, 0, none⟩) 1 1, .slice none 0 0] 84))
  have k2 := ((Blk.new' (w := V.alloc (.cells #[.int .i64 1] 3)) (n := V.heap.size + 1) (by simp) [.int .i64 1] 3).alloc (.cells #[.int .i64 0, .int .i64 2, .slice none 0 0, .slice (some ⟨V.heap.size, 0, none⟩) 1 1, .int .i64 1, .int .i64 3, .slice (some ⟨V.heap.size + 1, 0, none⟩) 1 1, .slice none 0 0] 84))
  have k3 := Blk.new' (w := (V.alloc (.cells #[.int .i64 1] 3)).alloc (.cells #[.int .i64 1] 3)) (n := V.heap.size + 2) (by simp) [.int .i64 0, .int .i64 2, .slice none 0 0, .slice (some ⟨V.heap.size, 0, none⟩) 1 1, .int .i64 1, .int .i64 3, .slice (some ⟨V.heap.size + 1, 0, none⟩) 1 1, .slice none 0 0] 84
  refine ⟨fun x hx => ?_, Or.inr ⟨V.heap.size + 2, 0, rfl, k3.lt, fun k hk => ?_⟩⟩
  · simp only [HopeM.l2, List.mem_cons, List.not_mem_nil, or_false] at hx
    rcases hx with rfl | rfl
    · exact ⟨Or.inl rfl, Or.inr ⟨_, 0, rfl, k1.lt, fun k hk => (by (have hk0 : k = 0 := (by simpa using hk)); subst hk0; exact k1.cell rfl)⟩, fun _ => rfl, fun h => by cases h⟩
    · exact ⟨Or.inr ⟨_, 0, rfl, k2.lt, fun k hk => (by (have hk0 : k = 0 := (by simpa using hk)); subst hk0; exact k2.cell rfl)⟩, Or.inl rfl, fun h => (by cases h), fun _ => rfl⟩
  · match k, hk with
    | 0, _ => exact ⟨k3.cell rfl, k3.cell rfl, k3.cell rfl, k3.cell rfl⟩
    | 1, _ => exact ⟨k3.cell rfl, k3.cell rfl, k3.cell rfl, k3.cell rfl⟩

set_option maxRecDepth 20000 in
set_option maxHeartbeats 8000000 in
theorem hopeSerial_calls (L : List TryL) (ao : Option Addr) (cap : Nat) (w : World) (h : TriesAt w ao L) (hn : L.length ≤ 9000000000000) (hcap : L.length ≤ cap) (hcap2 : cap ≤ 900000000000000) :
    Calls Try.prog 10 #[.slice ao L.length cap] w fun e w' => e = .returned (.bool true) ∧ Below w.heap.size w w' := by
  have H := box h
  clear h
  go_enter Try.func10, Try.ntmps10
  go_upto_region 1 with (fail)
  refine name_world (fun W => Below w.heap.size w W ∧ Blk W w.heap.size 79 [.slice ao L.length cap]) ⟨(Below.refl _ _).alloc (Nat.le_refl _) _, Blk.new _ _ _⟩ ?_
  rintro V ⟨hbV, hkV⟩
  obtain ⟨B1, HB1⟩ : ∃ B, Box (w.heap.size = B) := ⟨_, ⟨rfl⟩⟩
  rw [HB1.out] at hkV ⊢
  have HK1 := box hkV
  have HBV := box hbV
  clear hbV hkV
  go_wp2_with fail
  have hJ2 := hopeJudge_any (HopeM.l2 V.heap.size (V.heap.size + 1)) _ 2 _ (HopeM.l2_at V) (by simp [HopeM.l2]) (by simp [HopeM.l2]) (by omega)
  refine hJ2.mono ?_
  clear hJ2
  rintro e w1 ⟨hpost, hb1⟩
  obtain ⟨g1, rfl, hg1⟩ := (hpost.resolve_left (by rintro ⟨h, _⟩; exact h (HopeM.l2_chk _ _))).2
  have hg1' : Blk w1 g1 4 [.bool true, .bool false] := by
    rw [← HopeM.l2_js V.heap.size (V.heap.size + 1)]; exact hg1
  have hbV1 : Below V.heap.size V w1 := ((((Below.refl V.heap.size V).alloc (Nat.le_refl _) _).alloc (by simp) _).alloc (by simp; omega) _).trans (hb1.mono (by simp; omega))
  have HBw1 := box (below_tr HBV.out hbV1)
  have HK1w := box (HK1.out.after hbV1)
  have HG1 := box hg1'
  clear hpost hb1 hg1 hg1' hbV1
  rw [show (HopeM.l2 V.heap.size (V.heap.size + 1)).length = 2 from rfl]
  go_wp2_with fail
  refine (equalBools_any [true, false] g1 w1.heap.size 2 2 _ (HG1.out.alloc _) (Blk.new w1 [.bool true, .bool false] _) (by decide)).mono ?_
  rintro e w2 ⟨rfl, n2, rfl⟩
  have HB2 := box (hope_dN (HBw1.out.alloc HBw1.out.size (.cells #[.bool true, .bool false] 4)) n2)
  have HK2 := box ((HK1w.out.alloc (.cells #[.bool true, .bool false] 4)).drewN n2)
  generalize (w1.alloc (.cells #[.bool true, .bool false] 4)).drewN n2 = W2 at *
  have k2c := HK2.out.cell (i := 0) rfl
  clear HG1
  go_wp2_with fail
  refine (hopeJudge_any L ao cap _ (H.out.below HB2.out (Nat.le_refl _)) hn hcap hcap2).mono ?_
  rintro e w3 ⟨hpost, hb3⟩
  have HB3 := box (below_tr HB2.out hb3)
  have HK3 := box (HK2.out.after hb3)
  clear hb3 k2c
  rcases hpost with ⟨hc, rfl⟩ | ⟨hc, g, rfl, hg⟩
  · have HCk := box (fun w h => hopeCheck_any L ao cap w h hn)
    have HC0 := box hc
    obtain ⟨c, Hc⟩ : ∃ c, Box (HopeM.chk (TryL.plain L) = c) := ⟨_, ⟨rfl⟩⟩
    rw [Hc.out] at hc HCk ⊢
    have q1 : (c == 0) = false := by simpa using hc
    have q2 : (c != 0) = true := by simpa using hc
    have q3 : (c == c) = true := by simp
    clear hc
    go_upto_region 5 with (fail)
    refine name_world (fun W => Below w.heap.size w W ∧ Blk W B1 79 [.slice ao L.length cap] ∧ Blk W w3.heap.size 80 [.slice none 0 0]) ⟨HB3.out.alloc HB3.out.size _, HK3.out.alloc _, Blk.new _ _ _⟩ ?_
    rintro W ⟨hbW, hkW, h5W⟩
    have k1 := hkW.cell (i := 0) rfl
    have k5 := h5W.cell (i := 0) rfl
    have HBW := box hbW
    clear hbW hkW h5W
    go_wp2_with fail
    refine (HCk.out _ (H.out.below HBW.out (Nat.le_refl _))).mono ?_
    rintro e w6 ⟨rfl, hb6⟩
    have HB6 := box (below_tr HBW.out hb6)
    clear hb6
    go_wp2_with fail
    go_ret
    exact ⟨rfl, HB6.out⟩
  have HOK := box (HopeM.chk_ok hc)
  have hl40 : L.length ≤ 40 := by have := HOK.out.len; rw [TryL.plain_len] at this; exact this
  have HWL : Box (∀ x ∈ L, x.t.rd.length ≤ 20 ∧ x.t.wr.length ≤ 20) := ⟨fun x hx => by
    have h1 := HOK.out.one x.t (by unfold TryL.plain; exact List.mem_map.2 ⟨_, hx, rfl⟩)
    exact ⟨h1.2.2.2.1, h1.2.2.2.2.1⟩⟩
  have HG3 := box hg
  clear hc hg
  go_upto_region 5 with (fail)
  refine name_world (fun W => Below w.heap.size w W ∧ Blk W B1 79 [.slice ao L.length cap] ∧ Blk W w3.heap.size 80 [.slice (some ⟨g, 0, none⟩) L.length L.length] ∧ Blk W g 4 (Tab L.length fun k => .bool (HopeM.js (TryL.plain L) L.length k))) ⟨HB3.out.alloc HB3.out.size _, HK3.out.alloc _, Blk.new _ _ _, HG3.out.alloc _⟩ ?_
  rintro W ⟨hbW, hkW, h5W, hgW⟩
  obtain ⟨B5, HB5⟩ : ∃ B, Box (w3.heap.size = B) := ⟨_, ⟨rfl⟩⟩
  rw [HB5.out] at h5W ⊢
  have k1 := hkW.cell (i := 0) rfl
  have HBW := box hbW; have HKW := box hkW; have H5W := box h5W; have HGW := box hgW
  clear hbW hkW h5W hgW HG3 HK3 HK2 HK1w HK1
  go_wp2_with fail
  go_loopw [48] (fun t48 wr => ∃ i : Nat, i ≤ L.length ∧ t48 = .int .i64 (i : Int) ∧ Box (Below W.heap.size W wr)) (fun t48 _ => L.length - (intOf t48).toNat)
  case atStart => exact ⟨0, Nat.zero_le _, rfl, ⟨Below.refl _ _⟩⟩
  case round =>
    obtain ⟨i, hi, rfl, Hb⟩ := hrel
    have HBr := box (below_tr HBW.out Hb.out)
    by_cases hlt : i < L.length
    case neg =>
      go_wp2_with fail
      go_ret
      exact ⟨rfl, HBr.out⟩
    have HLr := box (H.out.below HBr.out (Nat.le_refl _))
    obtain ⟨b, off, rfl, hb, hrow⟩ := (HLr.out.row.resolve_left (by intro h; rw [h] at hlt; simp at hlt))
    obtain ⟨hc0, hc1, hc2, hc3⟩ := hrow i hlt
    have HS := box (HLr.out.sl _ (List.getElem_mem hlt))
    have hrl := (HWL.out _ (List.getElem_mem hlt)).1
    have Hone := box ((HOK.out.one L[i].t (by unfold TryL.plain; exact List.mem_map.2 ⟨_, List.getElem_mem hlt, rfl⟩)))
    have Hser : Box (HopeM.js (TryL.plain L) L.length i = true → ∀ x ∈ L[i].t.rd, HopeM.writer (TryL.plain L) (HopeM.js (TryL.plain L) L.length) x L[i].t.st L.length = HopeM.writer (TryL.plain L) (HopeM.js (TryL.plain L) L.length) x (L[i].t.en - 1) L.length) := ⟨fun hJ x hx => by
      have h0 : i < (TryL.plain L).length := by rw [TryL.plain_len]; exact hlt
      have e1 := TryL.plain_get L hlt
      have h1 := HopeM.serial HOK.out h0 (x := x) (by rw [TryL.plain_len]; exact hJ) (by rw [e1]; exact hx) L.length
      rw [TryL.plain_len, e1] at h1
      exact h1⟩
    have Hidle : Box (L[i].t.rd = [] → HopeM.js (TryL.plain L) L.length i = true) := ⟨fun hr => by
      have h0 : i < (TryL.plain L).length := by rw [TryL.plain_len]; exact hlt
      have h1 := HopeM.idle h0 (by rw [TryL.plain_get L hlt]; exact hr)
      rw [TryL.plain_len] at h1
      exact h1⟩
    have Hwriter : Box (∀ wx, Below W.heap.size W wx → ∀ item time, Calls Try.prog 41 #[.int .i64 item, .int .i64 time, .pointer (some ⟨B1, 0, none⟩), .pointer (some ⟨B5, 0, none⟩)] wx fun e w' => e = .returned (.int .i64 (HopeM.writer (TryL.plain L) (HopeM.js (TryL.plain L) L.length) item time L.length)) ∧ Below wx.heap.size wx w') := ⟨fun wx hx item time =>
      hopeWriter_any L _ _ cap g B1 B5 item time wx (H.out.below (below_tr HBW.out hx) (Nat.le_refl _)) hl40 (fun x hx => (HWL.out x hx).2) (HKW.out.after hx) (H5W.out.after hx) (HGW.out.after hx)⟩
    have Hj5 : Box (∀ wx, Below W.heap.size W wx → wx.cell? ⟨B5, 0, none⟩ = some (.slice (some ⟨g, 0, none⟩) L.length L.length) ∧ wx.cell? ⟨g, i, none⟩ = some (.bool (HopeM.js (TryL.plain L) L.length i))) := ⟨fun wx hx => ⟨(H5W.out.after hx).cell (i := 0) rfl, (HGW.out.after hx).tabCell hlt⟩⟩
    generalize HopeM.js (TryL.plain L) L.length i = ji at *
    have hbs := Hb.out.size
    clear hrow
    generalize L[i] = x at *
    obtain ⟨⟨st, en, rd, wrs⟩, ra, rc, wa, wc⟩ := x
    simp only at hc0 hc1 hc2 hc3 hrl Hone Hser Hidle
    go_upto_region 11 with (fail)
    refine name_world (fun W6 => Below wr.heap.size wr W6 ∧ Blk W6 wr.heap.size 84 [.int .i64 st, .int .i64 en, .slice ra rd.length rc, .slice wa wrs.length wc]) ⟨(Below.refl _ _).alloc (Nat.le_refl _) _, Blk.new _ _ _⟩ ?_
    rintro W6 ⟨hb6, hk6⟩
    have Hb6 := box (Hb.out.trans (hb6.mono hbs))
    have HS6 := box (HS.out.below hb6 (Nat.le_refl _))
    obtain ⟨Bi, HBx⟩ : ∃ B, Box (wr.heap.size = B) := ⟨_, ⟨rfl⟩⟩
    rw [HBx.out] at hk6 ⊢
    have HK6 := box hk6
    have y2 := hk6.cell (i := 2) rfl
    clear hb6 hk6 hc0 hc1 hc2 hc3
    go_wp2_with fail
    clear y2
    go_loopw [56] (fun t56 wx => ∃ j : Nat, j ≤ rd.length ∧ t56 = .int .i64 (j : Int) ∧ Box (Below W6.heap.size W6 wx)) (fun t56 _ => rd.length - (intOf t56).toNat)
    case atStart => exact ⟨0, Nat.zero_le _, rfl, ⟨Below.refl _ _⟩⟩
    case round =>
      obtain ⟨j, hj, rfl, Hb7⟩ := hrel
      have Hb7W := box (Hb6.out.trans (Hb7.out.mono Hb6.out.size))
      have HK7 := box (HK6.out.after Hb7.out)
      have y0 := HK7.out.cell (i := 0) rfl
      have y1 := HK7.out.cell (i := 1) rfl
      have y2 := HK7.out.cell (i := 2) rfl
      obtain ⟨u5, ug⟩ := Hj5.out _ Hb7W.out
      by_cases hltj : j < rd.length
      case neg =>
        cases hr : ((rd.length : Int) == 0) with
        | true =>
          have hr0 : rd.length = 0 := by simp at hr; rw [hr]; rfl
          have hji := Hidle.out (List.eq_nil_of_length_eq_zero hr0)
          subst hji
          go_wp2_with fail
          go_roundw
          case rel => exact ⟨i + 1, hlt, by go_num, Hb7W⟩
          case measure => simp [intOf]; omega
        | false =>
          go_wp2_with fail
          go_roundw
          case rel => exact ⟨i + 1, hlt, by go_num, Hb7W⟩
          case measure => simp [intOf]; omega
      have HR7 := box ((HS6.out.rd).below Hb7.out (Nat.le_refl _))
      obtain ⟨rb, roff, hra, hrb, hrrow⟩ := (HR7.out.resolve_left (by intro h; simp only at h; rw [h] at hltj; simp at hltj))
      simp only at hra hrrow
      subst hra
      have hr0 := hrrow j hltj
      have Hx := box (fun hJ => Hser.out hJ rd[j] (List.getElem_mem hltj))
      generalize rd[j] = x at *
      clear hrrow y2
      go_upto_region 14 with (fail)
      cases ji with
      | false =>
        go_quiet (fail)
        go_wp2_with fail
        go_roundw
        case rel => exact ⟨j + 1, hltj, by go_num, ⟨hope_dN Hb7.out _⟩⟩
        case measure => simp [intOf]; omega
      | true =>
      have eg := enters_fn Try.func41 (by kernel_rfl) rfl
      have w1 : IntKind.i64.wrap (en - 1) = en - 1 := IntWalk.i64_in _ (by have := Hone.out.1; have := Hone.out.2.1; have := Hone.out.2.2.1; omega)
      have hlB := box HK7.out.lt
      have hx := Hx.out rfl
      obtain ⟨wv, Hwv⟩ : ∃ q, Box (HopeM.writer (TryL.plain L) (HopeM.js (TryL.plain L) L.length) x (en - 1) L.length = q) := ⟨_, ⟨rfl⟩⟩
      have Hwx := box (hx.trans Hwv.out)
      clear hx Hx Hser Hidle
      go_cut [77] (fun s wx => s = .bool false ∧ Below W6.heap.size W6 wx)
      case first =>
        go_region_held3 (fun w' => w'.cell? ⟨Bi, 0, none⟩ = some (.int .i64 st) ∧ w'.cell? ⟨Bi, 1, none⟩ = some (.int .i64 en) ∧ w'.cell? ⟨B5, 0, none⟩ = some (.slice (some ⟨g, 0, none⟩) L.length L.length) ∧ w'.cell? ⟨g, i, none⟩ = some (.bool true)) (first | exact ⟨y0, y1, u5, ug⟩ | assumption) (first
          | (go_at_call 41; refine (Hwriter.out _ (by first | exact Hb8W.out | exact Hb8W.out.drew | exact hope_dN Hb8W.out _ | exact Hb7W.out.drew) _ _).mono ?_; rintro e w8 ⟨rfl, hb8⟩; (first | rw [Hwx.out] | rw [Hwv.out]); have Hb8 : Box (Below W6.heap.size W6 w8) := (by first | exact ⟨Hb8.out.trans (hb8.mono Hb8.out.size)⟩ | exact ⟨Hb7.out.drew.trans (hb8.mono Hb7.out.drew.size)⟩); have Hb8W : Box (Below W.heap.size W w8) := ⟨Hb6.out.trans (Hb8.out.mono Hb6.out.size)⟩; have hc8 : w8.cell? ⟨Bi, 0, none⟩ = some (.int .i64 st) ∧ w8.cell? ⟨Bi, 1, none⟩ = some (.int .i64 en) ∧ w8.cell? ⟨B5, 0, none⟩ = some (.slice (some ⟨g, 0, none⟩) L.length L.length) ∧ w8.cell? ⟨g, i, none⟩ = some (.bool true) := ⟨(HK6.out.after Hb8.out).cell (i := 0) rfl, (HK6.out.after Hb8.out).cell (i := 1) rfl, (Hj5.out _ Hb8W.out).1, (Hj5.out _ Hb8W.out).2⟩; clear hb8))
        go_step
        go_step
        go_meet
        exact ⟨rfl, Hb8.out⟩
      case rest =>
      obtain ⟨rfl, hbc⟩ := hcut
      have HBC := box hbc
      clear hbc
      go_wp2_with fail
      go_roundw
      case rel => exact ⟨j + 1, hltj, by go_num, HBC⟩
      case measure => simp [intOf]; omega
namespace lawHopeSerial
open Go.ChangeShapes Go.WideShapes Go.ChangeAt Go.RowKit Go.ChangeMaps

set_option maxRecDepth 100000 in
theorem lifted (os : Os) (started : os.Started) (H : Type) (enc : TypeId × Value → H) :
    ReturnsInHanded {} Try.checked os 10 .any (Rows.hopeSerialSpec.pre6 enc Try.prog Try.f10 [] false) (Rows.hopeSerialSpec.post enc Try.prog Try.f10 false true false false) := by
  refine LawKit.law_lifted started (by kernel_rfl) Try.func10 rfl
    (fun ds h => by
      match ds, h with
      | [_], _ => rfl)
    rfl Try.underlying4 (by intro t ht; exact of_decide_eq_true (p := Try.prog.readableRec t = true ∧ t < Try.prog.types.size) (by revert t ht; decide +kernel))
    (ChangeSpec.witness6 (enc := enc) (C := Try.checked) false ⟨#[], #[.slice none 0 0], []⟩ 8 (by kernel_rfl) (by kernel_rfl) (by kernel_rfl) (by kernel_rfl)) ?_
  intro W base args ds ps hval hA hsz hlt hfz
  have hA' := hA
  rw [Try.params10] at hA hval
  obtain ⟨v0, vs0, d0, ds0, p0, q0, hargs, rfl, rfl, h0, r0⟩ := trodAll_cons hA
  obtain ⟨rfl, rfl, rfl⟩ := trodAll_nil r0
  obtain rfl : args = #[v0] := by cases args; simp_all
  obtain ⟨ao, cap, L, rfl, hat, hcap, hcap2⟩ := open_tries (hval 0 _ _ rfl rfl) h0 (Open.weights_bound hsz (j := 0) (by rw [Try.params10]; rfl) rfl)
  refine (hopeSerial_calls L ao cap W hat (by omega) hcap (by omega)).mono ?_
  rintro e W' ⟨rfl, hb⟩
  exact ⟨rfl, hb⟩

theorem proved : Rows.HopeSerialSaid :=
  OpenClaim.holds_of_wide 10 Try.f10 rfl rfl rfl rfl rfl rfl rfl ⟨rfl, rfl, rfl, rfl, rfl⟩ rfl rfl rfl rfl rfl (by kernel_rfl) Try.func10 (by kernel_rfl)
    (of_decide_eq_true (by kernel_rfl)) (by unfold Func.isWrapper; first | (rw [if_pos (by decide +kernel)]; kernel_rfl) | (rw [if_neg (by decide +kernel)]; exact ⟨rfl, rfl⟩))
    (fun os started H enc _ => lifted os started H enc)
end lawHopeSerial
end Go.Proofs.Ytlmibgjflgkalaa
