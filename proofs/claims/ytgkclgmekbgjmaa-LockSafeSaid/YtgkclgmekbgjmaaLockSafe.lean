/- LockSafe is proved for every input. -/
import Derived.Test.YtgkclgmekbgjmaaLawKit
import Derived.Test.YtgkclgmekbgjmaaLkG
import Derived.Test.YtgkclgmekbgjmaaLkCat
import Derived.Test.YtgkclgmekbgjmaaRest
import Derived.Test.YtgkclgmekbgjmaaOpsOpen
import Derived.Test.YtgkclgmekbgjmaaIntIdx
import Derived.Deep.RegionHeld3
namespace Go.Proofs.Ytgkclgmekbgjmaa
open Go.RowKit Go.Lib

set_option maxRecDepth 20000 in
set_option maxHeartbeats 16000000 in
theorem lockSafe_calls (l : List OpM) (tx : Int) (ao : Option Addr) (cap : Nat) (w : World) (h : OpsAt w ao l) (hf : RunM.Fits l) :
    Calls Try.prog 9 #[.slice ao l.length cap, .int .i64 tx] w fun e w' => e = .returned (.bool true) ∧ Below w.heap.size w w' := by
  have H := box h; have Hn := hf.1
  obtain ⟨N, HN⟩ : ∃ N, Box (l.length = N) := ⟨_, ⟨rfl⟩⟩
  rw [HN.out] at Hn ⊢
  clear h hf
  go_enter Try.func9, Try.ntmps9
  go_wp2_with fail
  refine (ask_nil 0 3 4 5 w (by decide)).mono ?_
  rintro e w1 ⟨hb1, ao1, c1, rfl, _hL1⟩
  have HB1 := box hb1
  clear hb1 _hL1
  go_wp2_with fail
  go_loopw [5, 37] (fun t5 t37 wr => ∃ (k : Nat) (t : List LiM) (ta : Option Addr) (tc : Nat), k ≤ N ∧ t37 = .int .i64 (k : Int) ∧ t5 = .slice ta t.length tc ∧ Box (LkM.Good t ∧ LisIn wr 0 ta t ∧ Below w.heap.size w wr)) (fun _ t37 _ => N - (RowKit.intOf t37).toNat)
  case atStart => exact ⟨0, [], none, 0, Nat.zero_le _, rfl, rfl, ⟨LkM.Good.nil, Or.inl rfl, HB1.out⟩⟩
  case round =>
    obtain ⟨k, t, ta, tc, hk, rfl, rfl, HR⟩ := hrel
    clear HB1
    have HBs := box HR.out.2.2.size
    obtain ⟨TL, HTL⟩ : ∃ x, Box (t.length = x) := ⟨_, ⟨rfl⟩⟩
    rw [HTL.out]
    by_cases hlt : k < N
    · have hkl : k < l.length := by rw [HN.out]; exact hlt
      obtain ⟨b, off, rfl, hb, hrow⟩ := (H.out.below HR.out.2.2 (Nat.le_refl _)).resolve_left (by intro h; rw [h] at hkl; simp at hkl)
      obtain ⟨c0, c1, c2⟩ := hrow k hkl
      generalize l[k] = o at *
      obtain ⟨ox, okd, oi⟩ := o
      dsimp only at c0 c1 c2
      have HV : Box (LisIn (wr.alloc (.cells #[.int .i64 ox, .int .i64 okd, .int .i64 oi] 53)) 0 ta t ∧ Below w.heap.size w (wr.alloc (.cells #[.int .i64 ox, .int .i64 okd, .int .i64 oi] 53)) ∧ Blk (wr.alloc (.cells #[.int .i64 ox, .int .i64 okd, .int .i64 oi] 53)) wr.heap.size 53 [.int .i64 ox, .int .i64 okd, .int .i64 oi]) := ⟨HR.out.2.1.below ((Below.refl _ _).alloc (Nat.le_refl _) _) (Nat.le_refl _), HR.out.2.2.alloc HBs.out _, Blk.new _ _ _⟩
      clear hrow
      go_upto_region 8 with (fail)
      refine name_world (fun W => LisIn W 0 ta t ∧ Below w.heap.size w W ∧ Blk W wr.heap.size 53 [.int .i64 ox, .int .i64 okd, .int .i64 oi]) HV.out ?_
      rintro W ⟨hw1, hw2, hw3⟩
      have HW : Box (LisIn W 0 ta t ∧ Below w.heap.size w W ∧ Blk W wr.heap.size 53 [.int .i64 ox, .int .i64 okd, .int .i64 oi]) := ⟨hw1, hw2, hw3⟩
      have x0 := hw3.cell (i := 0) rfl
      have x1 := hw3.cell (i := 1) rfl
      have x2 := hw3.cell (i := 2) rfl
      have xls := hw3.lt
      have HG := box HR.out.1
      clear HV HR hw1 hw2 hw3 c0 c1 c2 hb
      generalize wr.heap.size = A at *
      have hmd : 0 ≤ okd % 5 ∧ okd % 5 < 5 := by omega
      obtain ⟨md, hmd5, hmdE⟩ : ∃ md : Nat, md < 5 ∧ (okd % ((5 : Nat) : Int)).toNat = md := ⟨_, by omega, rfl⟩
      have HMd := box hmdE
      clear hmd hmdE
      have hsum : IntKind.i64.wrap ((md : Int) + 1) = (md : Int) + 1 := IntWalk.i64_in _ (by omega)
      have HAsk := box (fun wx (hx : LisIn wx 0 ta t) => ask_g t ta tc 0 ox oi ((md : Int) + 1) wx hx HG.out)
      rw [HTL.out] at HAsk
      go_region_held3 (fun w' => w'.cell? ⟨A, 0, none⟩ = some (.int .i64 ox) ∧ w'.cell? ⟨A, 1, none⟩ = some (.int .i64 okd) ∧ w'.cell? ⟨A, 2, none⟩ = some (.int .i64 oi)) (first | exact ⟨x0, x1, x2⟩ | assumption | exact ⟨z0, z1, z2⟩) (first
        | (go_at_call 26; refine (rest_any okd 5 _ (by omega) (by omega)).mono ?_; rintro e w5 ⟨rfl, rfl⟩; rw [HMd.out])
        | (go_at_call 25; refine (HAsk.out W.drew (HW.out.1.below (Below.refl _ _).drew (Nat.le_refl _))).mono ?_; rintro e w5 ⟨hb5, t1, a1, ca1, b1, e1, rfl, hG1, hL1⟩; have hK5 := HW.out.2.2.drew.after hb5; have z0 := hK5.cell (i := 0) rfl; have z1 := hK5.cell (i := 1) rfl; have z2 := hK5.cell (i := 2) rfl; have HX1 : Box (LkM.Good t1 ∧ LisIn w5 0 a1 t1 ∧ LisIn w5 0 ta t ∧ Below w.heap.size w w5 ∧ Blk w5 A 53 [.int .i64 ox, .int .i64 okd, .int .i64 oi]) := ⟨hG1, hL1, (HW.out.1.below (Below.refl _ _).drew (Nat.le_refl _)).below hb5 (Nat.le_refl _), HW.out.2.1.drew.trans (hb5.mono HW.out.2.1.size), hK5⟩; clear hb5 hG1 hL1 hK5)
        | fail)
      have zls := HX1.out.2.2.2.2.lt
      clear HW HAsk x0 x1 x2 xls HMd hsum z0 z2
      obtain ⟨T1, HT1⟩ : ∃ x, Box (t1.length = x) := ⟨_, ⟨rfl⟩⟩
      rw [HT1.out]
      -- what stands behind the operation: a table that is good
      have HNx : Box (∀ (t2 : List LiM) (a2 : Option Addr) (c2 : Nat) (w6 : World), LkM.Good t2 → LisIn w6 0 a2 t2 → Calls Try.prog 32 #[.slice a2 t2.length c2] w6 fun e w' => e = .returned (.int .i64 0) ∧ Below w6.heap.size w6 w') := ⟨fun t2 a2 c2 w6 h1 h2 => check_g t2 a2 c2 0 w6 h2 h1⟩
      cases d4 : (okd == 4) with
      | true =>
        go_wp2_with fail
        have hdr := drop_g t ta tc 0 ox w5 HX1.out.2.2.1 HG.out
        rw [HTL.out] at hdr
        refine hdr.mono ?_
        clear hdr
        rintro e w6 ⟨hb6, t2, g2, a2, c2, ga2, gc2, e2, rfl, hf2, hl2, _⟩
        have HX2 : Box (LkM.Good t2 ∧ LisIn w6 0 a2 t2 ∧ LisIn w6 0 ta t ∧ Below w.heap.size w w6) := ⟨hf2.good, hl2, HX1.out.2.2.1.below hb6 (Nat.le_refl _), HX1.out.2.2.2.1.trans (hb6.mono HX1.out.2.2.2.1.size)⟩
        obtain ⟨T2, HT2⟩ : ∃ x, Box (t2.length = x) := ⟨_, ⟨rfl⟩⟩
        rw [HT2.out]
        clear hb6 hf2 hl2 HX1 z1 zls
        cases d0 : (e2 == 0) with
        | true =>
          go_wp2_with fail
          have hck := HNx.out t2 a2 c2 w6 HX2.out.1 HX2.out.2.1
          rw [HT2.out] at hck
          refine hck.mono ?_
          clear hck
          rintro e w7 ⟨rfl, hb7⟩
          have HY : Box (LkM.Good t2 ∧ LisIn w7 0 a2 t2 ∧ Below w.heap.size w w7) := ⟨HX2.out.1, HX2.out.2.1.below hb7 (Nat.le_refl _), HX2.out.2.2.2.trans (hb7.mono HX2.out.2.2.2.size)⟩
          clear hb7 HX2
          go_wp2_with fail
          go_roundw
          case rel => exact ⟨k + 1, t2, a2, c2, by omega, by go_num, by rw [HT2.out], HY⟩
          case measure => simp [RowKit.intOf]; omega
        | false =>
          go_wp2_with fail
          have hck := HNx.out t ta tc w6 HG.out HX2.out.2.2.1
          rw [HTL.out] at hck
          refine hck.mono ?_
          clear hck
          rintro e w7 ⟨rfl, hb7⟩
          have HY : Box (LkM.Good t ∧ LisIn w7 0 ta t ∧ Below w.heap.size w w7) := ⟨HG.out, HX2.out.2.2.1.below hb7 (Nat.le_refl _), HX2.out.2.2.2.trans (hb7.mono HX2.out.2.2.2.size)⟩
          clear hb7 HX2
          go_wp2_with fail
          go_roundw
          case rel => exact ⟨k + 1, t, ta, tc, by omega, by go_num, by rw [HTL.out], HY⟩
          case measure => simp [RowKit.intOf]; omega
      | false =>
        cases d0 : (e1 == 0) with
        | true =>
          go_wp2_with fail
          have hck := HNx.out t1 a1 ca1 w5 HX1.out.1 HX1.out.2.1
          rw [HT1.out] at hck
          refine hck.mono ?_
          clear hck
          rintro e w7 ⟨rfl, hb7⟩
          have HY : Box (LkM.Good t1 ∧ LisIn w7 0 a1 t1 ∧ Below w.heap.size w w7) := ⟨HX1.out.1, HX1.out.2.1.below hb7 (Nat.le_refl _), HX1.out.2.2.2.1.trans (hb7.mono HX1.out.2.2.2.1.size)⟩
          clear hb7 HX1
          go_wp2_with fail
          go_roundw
          case rel => exact ⟨k + 1, t1, a1, ca1, by omega, by go_num, by rw [HT1.out], HY⟩
          case measure => simp [RowKit.intOf]; omega
        | false =>
          go_wp2_with fail
          have hck := HNx.out t ta tc w5 HG.out HX1.out.2.2.1
          rw [HTL.out] at hck
          refine hck.mono ?_
          clear hck
          rintro e w7 ⟨rfl, hb7⟩
          have HY : Box (LkM.Good t ∧ LisIn w7 0 ta t ∧ Below w.heap.size w w7) := ⟨HG.out, HX1.out.2.2.1.below hb7 (Nat.le_refl _), HX1.out.2.2.2.1.trans (hb7.mono HX1.out.2.2.2.1.size)⟩
          clear hb7 HX1
          go_wp2_with fail
          go_roundw
          case rel => exact ⟨k + 1, t, ta, tc, by omega, by go_num, by rw [HTL.out], HY⟩
          case measure => simp [RowKit.intOf]; omega
    · obtain rfl : k = N := by omega
      have dk : decide (k < k) = false := by simp
      go_wp2_with fail
      have hdr := drop_g t ta tc 0 tx wr HR.out.2.1 HR.out.1
      rw [HTL.out] at hdr
      refine hdr.mono ?_
      clear hdr
      rintro e w6 ⟨hb6, u, g, ua, uc, ga, gc, e2, rfl, hf, hl2, hgi⟩
      have HF := box hf
      have HX : Box (LisIn w6 0 ua u ∧ IntsAt w6 ga g ∧ Below w.heap.size w w6) := ⟨hl2, hgi, HR.out.2.2.trans (hb6.mono HR.out.2.2.size)⟩
      clear hb6 hf hl2 hgi dk
      by_cases h0 : e2 = 0
      case neg =>
        have d0 : (e2 == 0) = false := by simp [h0]
        have d1 : (e2 != 0) = true := by simp [h0]
        obtain ⟨rfl, rfl⟩ := HF.out.none h0
        clear h0
        go_wp2_with fail
        go_ret
        exact ⟨rfl, HX.out.2.2⟩
      subst h0
      obtain ⟨UL, HUL⟩ : ∃ x, Box (u.length = x) := ⟨_, ⟨rfl⟩⟩
      obtain ⟨GL, HGL⟩ : ∃ x, Box (g.length = x) := ⟨_, ⟨rfl⟩⟩
      have hul : UL ≤ 20 := by have := HF.out.good.len; have := HUL.out; omega
      rw [HUL.out, HGL.out]
      clear HR HTL HBs
      go_wp2_with fail
      go_loopw [92] (fun t92 wr => ∃ k : Nat, k ≤ UL ∧ t92 = .int .i64 (k : Int) ∧ Box (LisIn wr 0 ua u ∧ IntsAt wr ga g ∧ Below w.heap.size w wr)) (fun t92 _ => UL - (RowKit.intOf t92).toNat)
      case atStart => exact ⟨0, Nat.zero_le _, rfl, HX⟩
      case round =>
        obtain ⟨i, hi, rfl, HR⟩ := hrel
        clear HX
        have HRs := box HR.out.2.2.size
        by_cases hiu : i < UL
        · have hil : i < u.length := by rw [HUL.out]; exact hiu
          obtain ⟨b, off, rfl, _, hb, hrow⟩ := HR.out.1.resolve_left (by intro h; rw [h] at hil; simp at hil)
          obtain ⟨ha, hc, qa, qc, hli⟩ := hrow i hil
          have HNo := box ((HF.out.gone rfl).1 _ (List.getElem_mem hil))
          have HOk := box (HF.out.good.ok _ (List.getElem_mem hil))
          generalize u[i] = x at *
          obtain ⟨it, held, queue⟩ := x
          obtain ⟨c0, c1, c2, hH, hQ, _, _, hnil, qnil⟩ := hli
          dsimp only at c0 c1 c2 hH hQ HNo
          have hHl : held.length ≤ 12 := LkM.okl_len HOk.out.held
          have hQl : queue.length ≤ 12 := LkM.okl_len HOk.out.queue
          have hal : Below wr.heap.size wr ((wr.alloc (.cells #[.int .i64 it, .slice ha held.length hc, .slice qa queue.length qc] 72)).alloc (.cells #[.slice ha held.length hc, .slice qa queue.length qc] 70)) := ((Below.refl _ _).alloc (Nat.le_refl _) _).alloc (by simp) _
          have hB : Blk ((wr.alloc (.cells #[.int .i64 it, .slice ha held.length hc, .slice qa queue.length qc] 72)).alloc (.cells #[.slice ha held.length hc, .slice qa queue.length qc] 70)) (wr.heap.size + 1) 70 [.slice ha held.length hc, .slice qa queue.length qc] := by
            have := Blk.new (wr.alloc (.cells #[.int .i64 it, .slice ha held.length hc, .slice qa queue.length qc] 72)) [.slice ha held.length hc, .slice qa queue.length qc] 70
            rwa [World.size_alloc] at this
          have HCat := box (concat_lks held queue (wr.heap.size + 1) 2 ha qa hc qc _ (hB.cell (i := 0) rfl) (hB.cell (i := 1) rfl) hB.lt (hH.at.below hal (Nat.le_refl _)) (hQ.at.below hal (Nat.le_refl _)) hnil qnil (by omega) (by omega))
          have HW5 : Box (LisIn ((wr.alloc (.cells #[.int .i64 it, .slice ha held.length hc, .slice qa queue.length qc] 72)).alloc (.cells #[.slice ha held.length hc, .slice qa queue.length qc] 70)) 0 (some ⟨b, off, none⟩) u ∧ IntsAt ((wr.alloc (.cells #[.int .i64 it, .slice ha held.length hc, .slice qa queue.length qc] 72)).alloc (.cells #[.slice ha held.length hc, .slice qa queue.length qc] 70)) ga g ∧ Below w.heap.size w ((wr.alloc (.cells #[.int .i64 it, .slice ha held.length hc, .slice qa queue.length qc] 72)).alloc (.cells #[.slice ha held.length hc, .slice qa queue.length qc] 70))) := ⟨HR.out.1.below hal (Nat.le_refl _), HR.out.2.1.below hal (Nat.le_refl _), HR.out.2.2.trans (hal.mono HRs.out)⟩
          clear hal hB hrow hH hQ hnil qnil HR
          go_wp2_with fail
          refine HCat.out.mono ?_
          rintro e w6 ⟨v, rfl, hown, hb6⟩
          obtain ⟨ca, cc, rfl, _, hcat, _, _⟩ := LksAt.own hown
          have HW6 : Box (LisIn w6 0 (some ⟨b, off, none⟩) u ∧ IntsAt w6 ga g ∧ Below w.heap.size w w6 ∧ LksAt w6 ca (held ++ queue)) := ⟨HW5.out.1.below hb6 (Nat.le_refl _), HW5.out.2.1.below hb6 (Nat.le_refl _), HW5.out.2.2.trans (hb6.mono HW5.out.2.2.size), hcat⟩
          clear hb6 hown hcat HW5 HCat c0 c1 c2
          have hcl : (held ++ queue).length ≤ 24 := by rw [List.length_append]; omega
          generalize held ++ queue = cat at *
          obtain ⟨CL, HCL⟩ : ∃ x, Box (cat.length = x) := ⟨_, ⟨rfl⟩⟩
          rw [HCL.out] at hcl ⊢
          go_wp2_with fail
          go_loopw [103] (fun t103 wr => ∃ j : Nat, j ≤ CL ∧ t103 = .int .i64 (j : Int) ∧ Box (LisIn wr 0 (some ⟨b, off, none⟩) u ∧ IntsAt wr ga g ∧ Below w.heap.size w wr ∧ LksAt wr ca cat)) (fun t103 _ => CL - (RowKit.intOf t103).toNat)
          case atStart => exact ⟨0, Nat.zero_le _, rfl, HW6⟩
          case round =>
            obtain ⟨j, hj, rfl, HJ⟩ := hrel
            clear HW6
            by_cases hjc : j < CL
            · have hjl : j < cat.length := by rw [HCL.out]; exact hjc
              obtain ⟨cb, coff, rfl, hcb, hcrow⟩ := HJ.out.2.2.2.resolve_left (by intro h; rw [h] at hjl; simp at hjl)
              obtain ⟨y0, y1⟩ := hcrow j hjl
              have hne := HNo.out _ (List.getElem_mem hjl)
              generalize cat[j] = y at *
              obtain ⟨yt, ym⟩ := y
              dsimp only at y0 y1 hne
              have hd : (yt == tx) = false := by simpa using hne
              have hal : Below wr.heap.size wr (wr.alloc (.cells #[.int .i64 yt, .int .i64 ym] 74)) := (Below.refl _ _).alloc (Nat.le_refl _) _
              have HY : Box (LisIn (wr.alloc (.cells #[.int .i64 yt, .int .i64 ym] 74)) 0 (some ⟨b, off, none⟩) u ∧ IntsAt (wr.alloc (.cells #[.int .i64 yt, .int .i64 ym] 74)) ga g ∧ Below w.heap.size w (wr.alloc (.cells #[.int .i64 yt, .int .i64 ym] 74)) ∧ LksAt (wr.alloc (.cells #[.int .i64 yt, .int .i64 ym] 74)) (some ⟨cb, coff, none⟩) cat) := ⟨HJ.out.1.below hal (Nat.le_refl _), HJ.out.2.1.below hal (Nat.le_refl _), HJ.out.2.2.1.trans (hal.mono HJ.out.2.2.1.size), HJ.out.2.2.2.below hal (Nat.le_refl _)⟩
              clear hcrow HJ hne hal
              go_wp2_with fail
              go_roundw
              case rel => exact ⟨j + 1, by omega, by go_num, HY⟩
              case measure => simp [RowKit.intOf]; omega
            · obtain rfl : j = CL := by omega
              have HY : Box (LisIn wr 0 (some ⟨b, off, none⟩) u ∧ IntsAt wr ga g ∧ Below w.heap.size w wr) := ⟨HJ.out.1, HJ.out.2.1, HJ.out.2.2.1⟩
              have dj : decide (j < j) = false := by simp
              clear HJ
              go_wp2_with fail
              go_roundw
              case rel => exact ⟨i + 1, by omega, by go_num, HY⟩
              case measure => simp [RowKit.intOf]; omega
        · obtain rfl : i = UL := by omega
          have di : decide (i < i) = false := by simp
          have hck := check_g u ua uc 0 wr HR.out.1 HF.out.good
          have hct := contains_ints g tx ga gc
          rw [HUL.out] at hck
          rw [HGL.out] at hct
          have hgl : GL ≤ 1000 := by have := HF.out.len; have := HGL.out; omega
          have hnt : decide (tx ∈ g) = false := decide_eq_false (HF.out.gone rfl).2.1
          rw [hnt] at hct
          have HCt := box hct
          clear hct hnt
          go_wp2_with fail
          refine hck.mono ?_
          clear hck
          rintro e w7 ⟨rfl, hb7⟩
          have HZ : Box (IntsAt w7 ga g ∧ Below w.heap.size w w7) := ⟨HR.out.2.1.below hb7 (Nat.le_refl _), HR.out.2.2.trans (hb7.mono HR.out.2.2.size)⟩
          clear hb7 HR di
          go_wp2_with fail
          refine (HCt.out w7 HZ.out.1 (by omega)).mono ?_
          rintro e w8 ⟨rfl, rfl⟩
          go_wp2_with fail
          go_ret
          exact ⟨rfl, HZ.out.2⟩
namespace lawLockSafe
open Go.ChangeShapes Go.WideShapes Go.ChangeAt Go.RowKit Go.ChangeMaps

set_option maxRecDepth 100000 in
theorem lifted (os : Os) (started : os.Started) (H : Type) (enc : TypeId × Value → H) :
    ReturnsInHanded {} Try.checked os 9 .any (Rows.lockSafeSpec.pre6 enc Try.prog Try.f9 [] false) (Rows.lockSafeSpec.post enc Try.prog Try.f9 false true false false) := by
  refine LawKit.law_lifted started (by kernel_rfl) Try.func9 rfl
    (fun ds h => by
      match ds, h with
      | [_, _], _ => rfl)
    rfl Try.underlying4 (by intro t ht; exact of_decide_eq_true (p := Try.prog.readableRec t = true ∧ t < Try.prog.types.size) (by revert t ht; decide +kernel))
    (ChangeSpec.witness6 (enc := enc) (C := Try.checked) false ⟨#[], #[.slice none 0 0, .int .i64 0], []⟩ 8 (by kernel_rfl) (by kernel_rfl) (by kernel_rfl) (by kernel_rfl)) ?_
  intro W base args ds ps hval hA hsz hlt hfz
  have hA' := hA
  rw [Try.params9] at hA hval
  obtain ⟨v0, vs0, d0, ds0, p0, q0, hargs, rfl, rfl, h0, r0⟩ := trodAll_cons hA
  obtain ⟨v1, vs1, d1, ds1, p1, q1, rfl, rfl, rfl, h1, r1⟩ := trodAll_cons r0
  obtain ⟨rfl, rfl, rfl⟩ := trodAll_nil r1
  obtain rfl : args = #[v0, v1] := by cases args; simp_all
  go_open 1 tx
  obtain ⟨ao, cap, ls, rfl, hnil, hat, hfits, _, _⟩ := open_ops (hval 0 _ _ rfl rfl) h0 (Open.weights_bound hsz (j := 0) (by rw [Try.params9]; rfl) rfl)
  refine (lockSafe_calls ls tx ao cap W hat hfits).mono ?_
  rintro e W' ⟨rfl, hb⟩
  exact ⟨rfl, hb⟩

theorem proved : Rows.LockSafeSaid :=
  OpenClaim.holds_of_wide 9 Try.f9 rfl rfl rfl rfl rfl rfl rfl ⟨rfl, rfl, rfl, rfl, rfl⟩ rfl rfl rfl rfl rfl (by kernel_rfl) Try.func9 (by kernel_rfl)
    (of_decide_eq_true (by kernel_rfl)) (by unfold Func.isWrapper; first | (rw [if_pos (by decide +kernel)]; kernel_rfl) | (rw [if_neg (by decide +kernel)]; exact ⟨rfl, rfl⟩))
    (fun os started H enc _ => lifted os started H enc)
end lawLockSafe
end Go.Proofs.Ytgkclgmekbgjmaa
