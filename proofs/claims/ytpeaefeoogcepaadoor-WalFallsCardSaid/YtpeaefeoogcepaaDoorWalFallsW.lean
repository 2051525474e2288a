/- WalFalls's walk. -/
import Derived.Test.YtpeaefeoogcepaaDoorWalK2
import Derived.Test.YtpeaefeoogcepaaDoorWalB
import Derived.Test.YtpeaefeoogcepaaDoorFront
import Derived.Test.YtpeaefeoogcepaaDoorDeedOpen
import Derived.Deep.LoopGhost
namespace Go.Proofs.YtpeaefeoogcepaaDoor
open Go.RowKit Go.Lib
open WalM

set_option maxRecDepth 20000 in
set_option maxHeartbeats 16000000 in
theorem walFalls_calls (L : List DeedL) (ao : Option Addr) (cap : Nat) (w : World) (h : DeedsAt w ao L) (hcap : L.length ≤ cap) (hlen : cap * 56 ≤ 140737488355328) :
    Calls Tryd.prog 4 #[.slice ao L.length cap] w fun e w' => e = .returned (.bool true) ∧ Below w.heap.size w w' := by
  have H := box h
  have HLg := box (logged_any w)
  obtain ⟨i0, hi0, hz0, hz1, hz2⟩ := info_parts Tryd.infoStrW
  clear h
  obtain ⟨B, HBe⟩ : ∃ x, Box (w.heap.size = x) := ⟨_, ⟨rfl⟩⟩
  rw [HBe.out] at HLg
  go_enter Tryd.func4, Tryd.ntmps4
  go_wp2_with fail
  refine HLg.out.mono ?_
  rintro e w1 ⟨D, Lb, vs, ve, vl, d, l, rfl, hn, hl, hep, hb1, hin⟩
  have HI := box (show InvB d l [] from ⟨hn, hl, hep⟩)
  have HB1 := box hb1
  have HL1 := box hin
  clear hn hl hep hb1 hin HLg
  have hsm := HI.out.norm.small
  have HA1 := box (walAppend_any HL1.out (by have := HI.out.ep; unfold I64; omega) hsm.fit hsm.at_ hsm.seq (by have := HI.out.norm.late; have := hsm.at_; omega) [97] (by decide))
  clear hsm
  have HA := box (HI.out.append [97] rfl)
  have HFi := box (HI.out.norm.first HI.out.left)
  obtain ⟨⟨d2, l2, e2⟩, hx⟩ : ∃ x, appendM d l [97] = x := ⟨_, rfl⟩
  rw [hx] at HA HFi HA1
  clear hx
  have he : e2 = 0 := HFi.out
  subst he
  have HI2 : Box (InvB d2 l2 [[97]]) := ⟨by
    rcases HA.out with ⟨_, h, _⟩ | ⟨h, _⟩
    · exact h
    · exact absurd h (by show ¬ ((0 : Int) = 2 ∨ (0 : Int) = 8); decide)⟩
  clear HA HFi HI
  go_wp2_with fail
  refine HA1.out.mono ?_
  clear HA1
  rintro e w2 ⟨rfl, vl2, hm⟩
  have HL2 : Box (LogIn w2 B D vs ve vl2 d2 24 Lb l2) := ⟨hm.in_ HL1.out HI2.out.norm.good (by have := HI2.out.norm.late; have := HI2.out.norm.at_le; show d2.late.length ≤ 1000000; omega)⟩
  have HB2 : Box (Below B w w2) := ⟨HB1.out.trans (hm.kept.below HL1.out.bs (fun b hb => (HL1.out.turns_lt hb).1))⟩
  clear hm HL1 HB1
  have HS := box (walSync_any HL2.out)
  have hs0 : (syncM d2 l2).2.2 = 0 := by
    unfold syncM
    rw [if_neg (by rw [HI2.out.norm.fell]; simp)]
    show SectM.flushed d2 = 0
    unfold SectM.flushed
    rw [if_neg (by rw [HI2.out.left]; decide)]
  have HI3 := box (InvG.sync (a := ⟨[[97]], 0, [], false⟩) ⟨Or.inl HI2.out.norm, HI2.out.norm.small, by show 1 ≤ 20; omega⟩)
  rw [if_pos hs0] at HI3
  rw [hs0] at HS
  clear hs0 HI2
  generalize (syncM d2 l2).1 = d3 at *
  generalize (syncM d2 l2).2.1 = l3 at *
  go_wp2_with fail
  refine HS.out.mono ?_
  clear HS
  rintro e w3 ⟨rfl, vl3, hm⟩
  have HL3 : Box (LogIn w3 B D vs ve vl3 d3 24 Lb l3) := ⟨hm.in_ HL2.out HI3.out.inv.good (by have := HI3.out.inv.late; omega)⟩
  have HB3 : Box (Below B w w3) := ⟨HB2.out.trans (hm.kept.below HL2.out.bs (fun b hb => (HL2.out.turns_lt hb).1))⟩
  clear hm HL2 HB2
  go_upto_region 5 with (fail)
  refine name_world (fun W => ∃ v, v = .slice (some ⟨w3.heap.size, 0, none⟩) 1 1 ∧ Below B w W ∧ FallAt W B D Lb vs ve vl3 v d3 l3 ⟨[[97]], 1, [], false⟩)
    ⟨_, rfl, HB3.out.alloc HL3.out.bs _, HI3.out, HL3.out.below ((Below.refl _ _).alloc (Nat.le_refl _) _), World.ownsRow_lit (base := B) (e := 9) (size := 1) w3 #[.string (BA [97])] 1 HL3.out.bs (by decide) rfl, fun b hb hm => ?_⟩ ?_
  · have := (HL3.out.turns_lt hm).2
    simp [Value.ownBlock] at hb
    omega
  rintro W ⟨v, hv, hbW, hrW⟩
  have HBW := box hbW
  have HFW := box hrW
  clear hbW hrW HL3 HB3 HI3
  rw [← hv]
  clear hv
  have hDl : L.length ≤ 2600000000000 := by omega
  obtain ⟨M, HM⟩ : ∃ M, Box (L.length = M) := ⟨_, ⟨rfl⟩⟩
  rw [HM.out] at hcap hDl ⊢
  go_wp2_with fail
  go_loopg [4, 6, 7, 8, 9, 36] M (fun f t4 t6 t7 t8 t9 t36 wr => ∃ (j : Nat) (Lb : Nat) (d : DiskM) (l : LogM) (vl u : Value) (a : LawS), t4 = .pointer (some ⟨Lb, 0, none⟩) ∧ t6 = u ∧ t7 = .int .i64 (a.safe : Int) ∧ t8 = .string (BA a.reset) ∧ t9 = .bool a.tried ∧ t36 = .int .i64 (j : Int) ∧ f + j = M ∧ Box (Below B w wr ∧ FallAt wr B D Lb vs ve vl u d l a))
  case atStart => exact ⟨0, Lb, d3, l3, vl3, _, ⟨[[97]], 1, [], false⟩, rfl, rfl, rfl, rfl, rfl, rfl, by omega, ⟨HBW.out, HFW.out⟩⟩
  case round =>
    obtain ⟨j, Lb, d, l, vl, u, a, rfl, rfl, rfl, rfl, rfl, rfl, hf, HX⟩ := hrel
    clear HBW HFW
    have HB := box HX.out.1
    have HF0 := box HX.out.2
    clear HX
    by_cases hk : j < M
    case neg =>
      obtain rfl : j = M := by omega
      go_wp2_with fail
      go_ret
      exact ⟨rfl, by rw [HBe.out]; exact HB.out⟩
    have hjl : j < L.length := by have := HM.out; omega
    have HDl := box (H.out.below HB.out (by have := HBe.out; omega))
    obtain ⟨db, doff, rfl, hdb, hrow⟩ := HDl.out.row.resolve_left (by intro h; rw [h] at hjl; simp at hjl)
    obtain ⟨k0, k1, k2, k3⟩ := hrow j hjl
    have hsl := HDl.out.sl L[j] (List.getElem_mem hjl)
    have hnR := hsl.n
    have htx := hsl.text
    have HFl : Box (∀ Wx, Below B wr Wx → FlagsAt Wx L[j].ka L[j].keep) := ⟨fun Wx hW => ((H.out.sl L[j] (List.getElem_mem hjl)).keep.below (HB.out.trans hW) (by have := HBe.out; omega))⟩
    obtain ⟨x, HX⟩ : ∃ x, Box (L[j] = x) := ⟨_, ⟨rfl⟩⟩
    rw [HX.out] at k0 k1 k2 k3 hnR htx HFl
    obtain ⟨kind, n, text, keep, ka, kc2⟩ := x
    dsimp only at k0 k1 k2 k3 hnR htx HFl
    obtain ⟨t, rfl⟩ : ∃ t, text = BA t := ⟨text.data.toList, (BA_of text).symm⟩
    rw [BA_size] at htx
    clear hsl hrow HX HDl
    go_upto_region 10 with (fail)
    have hHF := HF0.out.below ((Below.refl _ _).alloc (Nat.le_refl _) (.cells #[.int .i64 kind, .int .i64 n, .string (BA t), .slice ka keep.length kc2] 38))
    have hHB := HB.out.alloc HF0.out.row.log.bs (.cells #[.int .i64 kind, .int .i64 n, .string (BA t), .slice ka keep.length kc2] 38)
    have HX1 := box (Blk.new wr [.int .i64 kind, .int .i64 n, .string (BA t), .slice ka keep.length kc2] 38)
    have HFl2 : Box (∀ Wx, Below B (wr.alloc (.cells #[.int .i64 kind, .int .i64 n, .string (BA t), .slice ka keep.length kc2] 38)) Wx → FlagsAt Wx ka keep) := ⟨fun Wx hW => HFl.out Wx (((Below.refl B wr).alloc HF0.out.row.log.bs (.cells #[.int .i64 kind, .int .i64 n, .string (BA t), .slice ka keep.length kc2] 38)).trans hW)⟩
    obtain ⟨X, HXe⟩ : ∃ X, Box (wr.heap.size = X) := ⟨_, ⟨rfl⟩⟩
    obtain ⟨W, HWe⟩ : ∃ W, Box (wr.alloc (.cells #[.int .i64 kind, .int .i64 n, .string (BA t), .slice ka keep.length kc2] 38) = W) := ⟨_, ⟨rfl⟩⟩
    have HX2 : Box (Blk W X 38 [.int .i64 kind, .int .i64 n, .string (BA t), .slice ka keep.length kc2]) := ⟨by rw [← HXe.out, ← HWe.out]; exact HX1.out⟩
    rw [HWe.out] at hHF hHB HFl2 ⊢
    rw [HXe.out]
    have HF := box hHF
    have HB2 := box hHB
    have hXn := HF.out.not_turns HX2.out
    have HXn := box hXn
    clear HX1 HF0 HB HFl hHF hHB k0 k1 k2 k3 hdb HWe HXe hXn
    have x0 := HX2.out.cell (i := 0) rfl
    have x1 := HX2.out.cell (i := 1) rfl
    have x2 := HX2.out.cell (i := 2) rfl
    have x3 := HX2.out.cell (i := 3) rfl
    obtain ⟨ug, uc, rfl, huc⟩ := strs_own2 HF.out.row.own
    have hal := HF.out.lt
    have hsm := HF.out.inv.small
    have hla := HF.out.inv.inv.late
    cases q3 : (kind == 3) with
    | true =>
      go_wp2_with fail
      refine (sectFuse_any W B D vs ve vl d HF.out.row.log.at_ n hnR.2).mono ?_
      rintro e w7 ⟨rfl, hA7, hK7⟩
      have HF7 : Box (FallAt w7 B D Lb vs ve vl (.slice ug a.all.length uc) (SectM.fuse d n) l a) := ⟨HF.out.inv.fuse n, HF.out.row.fused n hA7 hK7⟩
      have HB7 : Box (Below B w w7) := ⟨HB2.out.trans (hK7.below HF.out.row.log.bs (fun b hb => (HF.out.row.log.at_.mine_lt hb).1))⟩
      clear hA7 hK7 x0 x1 x2 x3 HF HB2
      go_wp2_with fail
      go_roundg (M - (j + 1))
      case measure => omega
      case rel => exact ⟨j + 1, Lb, _, l, vl, _, a, rfl, rfl, rfl, rfl, rfl, by go_num, by omega, ⟨HB7.out, HF7.out⟩⟩
    | false =>
    have q3' : ¬ kind = 3 := by simpa using q3
    cases q4 : (kind == 4) with
    | true =>
      go_wp2_with fail
      refine (sectCrash_any W B D vs ve vl d HF.out.row.log.at_ HF.out.row.log.bs (by rw [HF.out.row.log.good.seen, HF.out.row.log.good.safe]) (by rw [HF.out.row.log.good.safe]; omega) (by rw [HF.out.row.log.good.safe]; omega) (by omega) (fun x hx => by rw [HF.out.row.log.good.safe]; exact HF.out.row.log.good.late x hx) keep ka kc2 HFl2.out).mono ?_
      rintro e w6 ⟨rfl, vl6, hM6⟩
      have hg6 := SectM.crash_good HF.out.row.log.good keep
      have hs6 := Nat.le_trans HF.out.row.log.bs hM6.kept.size
      have HU6 := box (hM6.kept.own HF.out.row.own (fun b hb hx => HF.out.row.ap b hb (Or.inr hx)))
      have HNm : Box (∀ b, Value.ownBlock (.slice ug a.all.length uc) = some b → ¬ SectM.Mine D vs ve vl6 b) := ⟨fun b hb hm => HF.out.row.ap b hb (Or.inr (Mine.back hM6 (HF.out.row.own.lt b hb).2 hm))⟩
      have HB6 : Box (Below B w w6) := ⟨HB2.out.trans (hM6.kept.below HF.out.row.log.bs (fun b hb => (HF.out.row.log.at_.mine_lt hb).1))⟩
      have HO := box (walOpen_any w6 B D vs ve vl6 (SectM.crash d keep) 24 hM6.at_ hg6 hs6 (by omega) (by omega) (by show ¬ (-1 : Int) = 0; decide) (by show 0 ≤ 500000; omega) 2 20 (by omega) (by omega))
      have HA6 := box hM6.at_
      have HCr := box (HF.out.inv.crash keep)
      clear hM6 hg6 x0 x1 x2 x3 HF HB2 hsm hla q4 q3'
      rcases HCr.out with ⟨d5, ho⟩ | ⟨d5, l5, ts, ho, hok, hfew, hinv⟩
      · rw [ho] at HO
        clear ho
        go_wp2_with fail
        refine HO.out.mono ?_
        intro e w7 hp
        obtain ⟨vl7, hm, he⟩ := hp
        have he : e = .returned (.tuple #[.pointer none, .slice none 0 0, .int .i64 8]) := he
        subst he
        have HB7 : Box (Below B w w7) := ⟨HB6.out.trans (hm.kept.below hs6 (fun b hb => (HA6.out.mine_lt hb).1))⟩
        clear hm HO
        go_wp2_with fail
        go_ret
        exact ⟨rfl, by rw [HBe.out]; exact HB7.out⟩
      · rw [ho] at HO
        have HOk := box hok
        have HIv := box hinv
        clear ho hok hinv HCr
        go_wp2_with fail
        refine HO.out.mono ?_
        intro e w7 hp
        obtain ⟨vl7, Lb7, v7, rfl, hrow, hkp⟩ := hp.row (B := B) HA6.out hs6 HIv.out.inv.good (by have := HIv.out.inv.late; omega) hs6
        have HR7 := box hrow
        have HU7 := box (hkp.own HU6.out HNm.out)
        have HB7 : Box (Below B w w7) := ⟨HB6.out.trans (hkp.below hs6 (fun b hb => (HA6.out.mine_lt hb).1))⟩
        clear hp hrow hkp HO HA6 HB6 HU6 HNm
        obtain ⟨g7, c7, rfl, hc7⟩ := strs_own2 HR7.out.own
        have HFr := box (front_any (ts.map BA) (a.all.map BA) g7 ug c7 uc w7 (strs_at2 HR7.out.own) (strs_at2 HU7.out) (by rw [List.length_map]; omega) (by rw [List.length_map]; exact huc))
        have HEq : Box (∀ (w8 : World) (b : Nat), Below w7.heap.size w7 w8 → b < w8.heap.size → w8.cell? ⟨b, 0, none⟩ = some (.string (BA a.reset)) → Calls Tryd.prog 9 #[.slice g7 ts.length c7, .slice (some ⟨b, 0, none⟩) 1 1] w8 fun e w' => e = .returned (.bool (decide (ts = [a.reset]))) ∧ ∃ n, w' = w8.drewN n) := ⟨fun w8 b h8 hb hc => by
          have h1 := equalStrs_any (ts.map BA) [BA a.reset] g7 (some ⟨b, 0, none⟩) c7 1 w8 ((strs_at2 HR7.out.own).below h8 (Nat.le_refl _)) (Or.inr ⟨b, 0, rfl, hb, fun k hk => by
            obtain rfl : k = 0 := (by simpa using hk)
            exact hc⟩) (by rw [List.length_map]; omega) (by simp)
          rw [List.length_map] at h1
          have e1 : decide (ts.map BA = [BA a.reset]) = decide (ts = [a.reset]) := by
            rw [show [BA a.reset] = List.map BA [a.reset] from rfl]
            exact decide_eq_decide.2 BA_map_eq
          rw [e1] at h1
          exact h1⟩
        rw [List.length_map, List.length_map, show decide (ts.map BA <+: a.all.map BA) = decide (ts <+: a.all) from decide_eq_decide.2 BA_map_prefix] at HFr
        have HNx : Box (∀ wx, Below w7.heap.size w7 wx → FallAt wx B D Lb7 vs ve vl7 (.slice g7 ts.length c7) d5 l5 ⟨ts, ts.length, a.reset, false⟩ ∧ Below B w wx) := ⟨fun wx hx => ⟨FallAt.below ⟨HIv.out, HR7.out⟩ hx, HB7.out.trans (hx.mono HR7.out.log.bs)⟩⟩
        clear HU7 HIv HB7 HR7 HFl2 HX2 HXn hal hcap hnR
        by_cases hw : a.safe ≤ ts.length ∧ ts <+: a.all
        · obtain ⟨hw, hp⟩ := hw
          rw [decide_eq_true hp] at HFr
          have c1 : decide ((a.safe : Int) ≤ (ts.length : Int)) = true := decide_eq_true (by omega)
          have c2 : decide (a.safe ≤ ts.length) = true := decide_eq_true hw
          clear hw hp HOk
          go_wp2_with fail
          refine HFr.out.mono ?_
          rintro e w8 ⟨rfl, n8, rfl⟩
          clear HFr HEq
          have HN8 := box (HNx.out (w7.drewN n8) ⟨rfl, rfl, rfl, Nat.le_refl _, fun _ _ => rfl⟩)
          go_wp2_with fail
          go_roundg (M - (j + 1))
          case measure => omega
          case rel => exact ⟨j + 1, Lb7, _, l5, vl7, _, ⟨ts, ts.length, a.reset, false⟩, rfl, rfl, rfl, rfl, rfl, by go_num, by omega, ⟨HN8.out.2, HN8.out.1⟩⟩
        have ht : a.tried = true ∧ ts = [a.reset] := HOk.out.resolve_left hw
        obtain ⟨ht, hts⟩ := ht
        rw [decide_eq_true hts] at HEq
        rw [ht]
        clear ht hts
        by_cases hs : a.safe ≤ ts.length
        · have hp : ¬ ts <+: a.all := fun hp => hw ⟨hs, hp⟩
          rw [decide_eq_false hp] at HFr
          have c1 : decide ((a.safe : Int) ≤ (ts.length : Int)) = true := decide_eq_true (by omega)
          have c2 : decide (a.safe ≤ ts.length) = true := decide_eq_true hs
          clear hw hp HOk hs
          go_wp2_with fail
          refine HFr.out.mono ?_
          rintro e w8 ⟨rfl, n8, rfl⟩
          clear HFr
          go_wp2_with fail
          refine (HEq.out ((w7.drewN n8).alloc (.cells #[.string (BA a.reset)] 9)) w7.heap.size (show Below w7.heap.size w7 ((w7.drewN n8).alloc (.cells #[.string (BA a.reset)] 9)) from Below.alloc (show Below w7.heap.size w7 (w7.drewN n8) from ⟨rfl, rfl, rfl, Nat.le_refl _, fun _ _ => rfl⟩) (Nat.le_refl _) _) (by simp) (cells_new (w7.drewN n8) [.string (BA a.reset)] 9 0 _ rfl)).mono ?_
          rintro e w9 ⟨rfl, n9, rfl⟩
          have HN9 := box (HNx.out (((w7.drewN n8).alloc (.cells #[.string (BA a.reset)] 9)).drewN n9) ((show Below w7.heap.size w7 ((w7.drewN n8).alloc (.cells #[.string (BA a.reset)] 9)) from Below.alloc (show Below w7.heap.size w7 (w7.drewN n8) from ⟨rfl, rfl, rfl, Nat.le_refl _, fun _ _ => rfl⟩) (Nat.le_refl _) _).trans ⟨rfl, rfl, rfl, Nat.le_refl _, fun _ _ => rfl⟩))
          clear HEq
          go_wp2_with fail
          go_roundg (M - (j + 1))
          case measure => omega
          case rel => exact ⟨j + 1, Lb7, _, l5, vl7, _, ⟨ts, ts.length, a.reset, false⟩, rfl, rfl, rfl, rfl, rfl, by go_num, by omega, ⟨HN9.out.2, HN9.out.1⟩⟩
        · have c1 : decide ((a.safe : Int) ≤ (ts.length : Int)) = false := decide_eq_false (by omega)
          have c2 : decide (a.safe ≤ ts.length) = false := decide_eq_false hs
          clear hw HOk hs HFr
          go_wp2_with fail
          refine (HEq.out (w7.alloc (.cells #[.string (BA a.reset)] 9)) w7.heap.size (show Below w7.heap.size w7 (w7.alloc (.cells #[.string (BA a.reset)] 9)) from (Below.refl _ _).alloc (Nat.le_refl _) _) (by simp) (cells_new w7 [.string (BA a.reset)] 9 0 _ rfl)).mono ?_
          rintro e w9 ⟨rfl, n9, rfl⟩
          have HN9 := box (HNx.out ((w7.alloc (.cells #[.string (BA a.reset)] 9)).drewN n9) ((show Below w7.heap.size w7 (w7.alloc (.cells #[.string (BA a.reset)] 9)) from (Below.refl _ _).alloc (Nat.le_refl _) _).trans ⟨rfl, rfl, rfl, Nat.le_refl _, fun _ _ => rfl⟩))
          clear HEq
          go_wp2_with fail
          go_roundg (M - (j + 1))
          case measure => omega
          case rel => exact ⟨j + 1, Lb7, _, l5, vl7, _, ⟨ts, ts.length, a.reset, false⟩, rfl, rfl, rfl, rfl, rfl, by go_num, by omega, ⟨HN9.out.2, HN9.out.1⟩⟩
    | false =>
    have q4' : ¬ kind = 4 := by simpa using q4
    cases q8 : (kind == 8) with
    | true =>
      have HS := box (walSync_any HF.out.row.log)
      have HI := box HF.out.inv.sync
      obtain ⟨⟨d4, l4, e4⟩, hx⟩ : ∃ x, syncM d l = x := ⟨_, rfl⟩
      rw [hx] at HS HI
      clear hx
      dsimp only at HS HI
      go_wp2_with fail
      refine HS.out.mono ?_
      clear HS
      rintro e w7 ⟨rfl, vl7, hm⟩
      have HB7 : Box (Below B w w7) := ⟨HB2.out.trans (hm.kept.below HF.out.row.log.bs (fun b hb => (HF.out.row.log.turns_lt hb).1))⟩
      have HR7 := box (HF.out.row.moved hm HI.out.inv.good (by have := HI.out.inv.late; omega))
      clear hm x0 x1 x2 x3 HF HB2 hsm hla
      cases q0 : (e4 == 0) with
      | true =>
        rw [if_pos (by simpa using q0)] at HI
        go_wp2_with fail
        go_roundg (M - (j + 1))
        case measure => omega
        case rel => exact ⟨j + 1, Lb, _, l4, vl7, _, { a with safe := a.all.length }, rfl, rfl, rfl, rfl, rfl, by go_num, by omega, ⟨HB7.out, HI.out, HR7.out⟩⟩
      | false =>
        rw [if_neg (by simpa using q0)] at HI
        go_wp2_with fail
        go_roundg (M - (j + 1))
        case measure => omega
        case rel => exact ⟨j + 1, Lb, _, l4, vl7, _, a, rfl, rfl, rfl, rfl, rfl, by go_num, by omega, ⟨HB7.out, HI.out, HR7.out⟩⟩
    | false =>
    have q8' : ¬ kind = 8 := by simpa using q8
    cases q9 : (kind == 9) with
    | true =>
      have HS := box (walReset_any HF.out.row.log ⟨hsm.e0, hsm.e1⟩ hsm.fit (by omega) t htx)
      have HI := box (HF.out.inv.reset t)
      obtain ⟨⟨d4, l4, e4⟩, hx⟩ : ∃ x, resetM d l t = x := ⟨_, rfl⟩
      rw [hx] at HS HI
      clear hx
      dsimp only at HS HI
      go_wp2_with fail
      refine HS.out.mono ?_
      clear HS
      rintro e w7 ⟨rfl, vl7, hm⟩
      have HB7 : Box (Below B w w7) := ⟨HB2.out.trans (hm.kept.below HF.out.row.log.bs (fun b hb => (HF.out.row.log.turns_lt hb).1))⟩
      have HR7 := box (HF.out.row.moved hm HI.out.inv.good (by have := HI.out.inv.late; omega))
      have HX7 := box (hm.kept.blk HX2.out HXn.out)
      clear hm x0 x1 x2 x3 HF HB2 hsm hla
      have x2 := HX7.out.cell (i := 2) rfl
      cases q0 : (e4 == 0) with
      | true =>
        rw [if_pos (by simpa using q0)] at HI
        have HR8 := box (LogRow.lit (B := B) HR7.out.log t HR7.out.log.bs)
        have HB8 := box (HB7.out.alloc HR7.out.log.bs (.cells #[.string (BA t)] 9))
        go_wp2_with fail
        go_roundg (M - (j + 1))
        case measure => omega
        case rel => exact ⟨j + 1, Lb, _, l4, vl7, _, { a with all := [t], safe := 1 }, rfl, rfl, rfl, rfl, rfl, by go_num, by omega, ⟨HB8.out, HI.out, HR8.out⟩⟩
      | false =>
      rw [if_neg (by simpa using q0)] at HI
      cases qa : (e4 == 2) with
      | true =>
        rw [if_pos (Or.inl (by simpa using qa))] at HI
        go_wp2_with fail
        go_roundg (M - (j + 1))
        case measure => omega
        case rel => exact ⟨j + 1, Lb, _, l4, vl7, _, a, rfl, rfl, rfl, rfl, rfl, by go_num, by omega, ⟨HB7.out, HI.out, HR7.out⟩⟩
      | false =>
      cases qb : (e4 == 8) with
      | true =>
        rw [if_pos (Or.inr (Or.inl (by simpa using qb)))] at HI
        go_wp2_with fail
        go_roundg (M - (j + 1))
        case measure => omega
        case rel => exact ⟨j + 1, Lb, _, l4, vl7, _, a, rfl, rfl, rfl, rfl, rfl, by go_num, by omega, ⟨HB7.out, HI.out, HR7.out⟩⟩
      | false =>
      cases qc : (e4 == 10) with
      | true =>
        rw [if_pos (Or.inr (Or.inr (by simpa using qc)))] at HI
        go_wp2_with fail
        go_roundg (M - (j + 1))
        case measure => omega
        case rel => exact ⟨j + 1, Lb, _, l4, vl7, _, a, rfl, rfl, rfl, rfl, rfl, by go_num, by omega, ⟨HB7.out, HI.out, HR7.out⟩⟩
      | false =>
        rw [if_neg (by rintro (h | h | h) <;> simp [h] at qa qb qc)] at HI
        go_wp2_with fail
        go_roundg (M - (j + 1))
        case measure => omega
        case rel => exact ⟨j + 1, Lb, _, l4, vl7, _, { a with reset := t, tried := true }, rfl, rfl, rfl, rfl, rfl, by go_num, by omega, ⟨HB7.out, HI.out, HR7.out⟩⟩
    | false =>
    have q9' : ¬ kind = 9 := by simpa using q9
    have HS := box (walAppend_any HF.out.row.log HF.out.inv.len.2 hsm.fit hsm.at_ hsm.seq (by omega) t htx)
    have HI := box (HF.out.inv.append t)
    obtain ⟨⟨d4, l4, e4⟩, hx⟩ : ∃ x, appendM d l t = x := ⟨_, rfl⟩
    rw [hx] at HS HI
    clear hx
    dsimp only at HS HI
    go_wp2_with fail
    refine HS.out.mono ?_
    clear HS
    rintro e w7 ⟨rfl, vl7, hm⟩
    have HB7 : Box (Below B w w7) := ⟨HB2.out.trans (hm.kept.below HF.out.row.log.bs (fun b hb => (HF.out.row.log.turns_lt hb).1))⟩
    have HR7 := box (HF.out.row.moved hm HI.out.inv.good (by have := HI.out.inv.late; omega))
    have HX7 := box (hm.kept.blk HX2.out HXn.out)
    clear hm x0 x1 x2 x3 HF HB2 hsm hla q3' q4' q8' q9'
    have x2 := HX7.out.cell (i := 2) rfl
    cases q0 : (e4 == 0) with
    | true =>
      rw [if_pos (by simpa using q0)] at HI
      have hfew := HI.out.few
      rw [List.length_append] at hfew
      have hown5 := HR7.out.own.alloc (.cells #[.string (BA t)] 9)
      have hbs7 := HR7.out.log.bs
      go_wp2_with (at_builtin; go_must (refine wpList_append_lies _ rfl _ _ 22 rfl B 9 i0 _ 1 16 Tryd.underlying22 hi0 hz0 hz1 hz2 rfl (by decide) _ _ _ rfl hown5 ⟨w7.heap.size, 0, none⟩ 1 1 [.string (BA t)] rfl rfl (cells_new w7 [.string (BA t)] 9) (by simp [Value.oneCell']) (by decide) (by unfold maxLen; omega) (by omega) (by simp; omega) (w7.heap.size + 1) (by simp) ?_))
      intro gg gcap w8 hown8 hgrow8 hat8 hlt8
      have HR8 : Box (LogRow w8 B D Lb vs ve vl7 d4 l4 B (.slice (some ⟨gg, 0, none⟩) (a.all.length + 1) gcap) (a.all ++ [t])) := ⟨LogRow.push HR7.out.log HR7.out.ap hgrow8 hat8 hown8 rfl⟩
      have HB8 : Box (Below B w w8) := ⟨(HB7.out.alloc hbs7 _).grown hgrow8 (by simp; omega) (fun b hb => (HR7.out.own.lt b hb).1)⟩
      clear hown8 hgrow8 hat8 hlt8 hown5 HR7 HB7
      go_wp2_with fail
      go_roundg (M - (j + 1))
      case measure => omega
      case rel => exact ⟨j + 1, Lb, _, l4, vl7, _, { a with all := a.all ++ [t] }, rfl, rfl, rfl, rfl, rfl, by go_num, by omega, ⟨HB8.out, HI.out, HR8.out⟩⟩
    | false =>
      rw [if_neg (by simpa using q0)] at HI
      go_wp2_with fail
      go_roundg (M - (j + 1))
      case measure => omega
      case rel => exact ⟨j + 1, Lb, _, l4, vl7, _, a, rfl, rfl, rfl, rfl, rfl, by go_num, by omega, ⟨HB7.out, HI.out, HR7.out⟩⟩
end Go.Proofs.YtpeaefeoogcepaaDoor
