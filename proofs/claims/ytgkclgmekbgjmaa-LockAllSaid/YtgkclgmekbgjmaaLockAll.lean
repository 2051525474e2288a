/- LockAll is proved for every input. -/
import Derived.Test.YtgkclgmekbgjmaaLawKit
import Derived.Test.YtgkclgmekbgjmaaLkG
import Derived.Test.YtgkclgmekbgjmaaLkWaits
import Derived.Test.YtgkclgmekbgjmaaSlEg
import Derived.Test.YtgkclgmekbgjmaaEgEq
import Derived.Test.YtgkclgmekbgjmaaRest
import Derived.Test.YtgkclgmekbgjmaaOpsOpen
import Derived.Deep.RegionHeld3
namespace Go.Proofs.Ytgkclgmekbgjmaa
open Go.RowKit Go.Lib

set_option maxRecDepth 20000 in
set_option maxHeartbeats 1000000 in
theorem lockAll_f (W : World) (x : EgM) (k : Int) (Kb : Nat) (hk : W.cell? ⟨Kb, 0, none⟩ = some (.int .i64 k)) (hkb : Kb < W.heap.size) :
    Calls Try.prog 29 #[.agg #[.int .i64 x.frm, .int .i64 x.to_], .pointer (some ⟨Kb, 0, none⟩)] W fun e w' => e = .returned (.bool (x.frm == k)) ∧ Below W.heap.size W w' := by
  obtain ⟨x, y⟩ := x
  go_enter Try.func29, Try.ntmps29
  go_wp2_with fail
  all_goals first | go_wp2 | skip
  all_goals first | go_quiet (fail) | skip
  all_goals
    go_wp2_with fail
    go_ret
    first
      | exact ⟨rfl, (Below.refl _ _).alloc (Nat.le_refl _) _⟩
      | exact ⟨rfl, ((Below.refl _ _).alloc (Nat.le_refl _) _).trans ⟨rfl, rfl, rfl, Nat.le_refl _, fun _ _ => rfl⟩⟩
/-- What Waits answers at a good table. -/
def LkM.WaitsG (t : List LiM) (w : World) (e : Ending) (w' : World) : Prop :=
  Below w.heap.size w w' ∧ ∃ ao cap, e = .returned (.tuple #[.slice ao (LkM.waits t).length cap, .int .i64 0]) ∧ EgsAt w' ao (LkM.waits t) ∧ (LkM.waits t).length ≤ 144
theorem waits_g (t : List LiM) (ao : Option Addr) (cap lo : Nat) (w : World) (h : LisIn w lo ao t) (hg : LkM.Good t) :
    Calls Try.prog 27 #[.slice ao t.length cap] w (LkM.WaitsG t w) := by
  refine (waits_any t ao cap lo w h hg.small).mono ?_
  rintro e w' ⟨hb, ⟨h1, _⟩ | ⟨_, v, rfl, hown⟩⟩
  · exact absurd (LkM.check_iff.2 hg) h1
  · obtain ⟨ao', cap', rfl, _, hat, _⟩ := EgsAt.own hown
    exact ⟨hb, ao', cap', rfl, hat, by have := LkM.edgesOf_len (LkM.markT (fun _ _ => false) t) 12; unfold LkM.waits; omega⟩
def LkM.ex1 : List LiM := [⟨1, [⟨1, 3⟩], []⟩]
def LkM.ex2 : List LiM := [⟨1, [⟨1, 3⟩], [⟨2, 5⟩]⟩]
theorem LkM.ex2_good : LkM.Good LkM.ex2 := LkM.check_iff.1 (by decide)
theorem ask_ex (ao : Option Addr) (cap lo : Nat) (w : World) (h : LisIn w lo ao LkM.ex1) :
    Calls Try.prog 25 #[.slice ao 1 cap, .int .i64 2, .int .i64 1, .int .i64 5] w fun e w' => Below w.heap.size w w' ∧ ∃ ao' cap', e = .returned (.tuple #[.slice ao' 1 cap', .bool false, .int .i64 0]) ∧ LisIn w' w.heap.size ao' LkM.ex2 := by
  have hg : LkM.Good LkM.ex1 := LkM.check_iff.1 (by decide)
  refine (ask_any LkM.ex1 ao cap lo 2 1 5 w h hg.small).mono ?_
  rintro e w' ⟨hb, ⟨h1, _⟩ | ⟨_, ao', cap', rfl, h2⟩⟩
  · exact absurd (by decide) h1
  · exact ⟨hb, ao', cap', rfl, h2⟩

set_option maxRecDepth 20000 in
set_option maxHeartbeats 16000000 in
theorem lockAll_calls (l : List OpM) (ao : Option Addr) (cap : Nat) (w : World) (h : OpsAt w ao l) (hf : RunM.Fits l) :
    Calls Try.prog 8 #[.slice ao l.length cap] w fun e w' => e = .returned (.bool true) ∧ Below w.heap.size w w' := by
  have H := box h; have Hn := hf.1
  obtain ⟨N, HN⟩ : ∃ N, Box (l.length = N) := ⟨_, ⟨rfl⟩⟩
  rw [HN.out] at Hn ⊢
  clear h hf
  go_enter Try.func8, Try.ntmps8
  go_wp2_with fail
  go_loopw [3, 26] (fun t3 t26 wr => ∃ (k : Nat) (t : List LiM) (ta : Option Addr) (tc : Nat), k ≤ N ∧ t26 = .int .i64 (k : Int) ∧ t3 = .slice ta t.length tc ∧ Box (LkM.Good t ∧ LisIn wr 0 ta t ∧ Below w.heap.size w wr)) (fun _ t26 _ => N - (RowKit.intOf t26).toNat)
  case atStart => exact ⟨0, [], none, 0, Nat.zero_le _, rfl, rfl, ⟨LkM.Good.nil, Or.inl rfl, Below.refl _ _⟩⟩
  case round =>
    obtain ⟨k, t, ta, tc, hk, rfl, rfl, HR⟩ := hrel
    have HBs := box HR.out.2.2.size
    obtain ⟨TL, HTL⟩ : ∃ x, Box (t.length = x) := ⟨_, ⟨rfl⟩⟩
    rw [HTL.out]
    by_cases hlt : k < N
    · have hkl : k < l.length := by rw [HN.out]; exact hlt
      obtain ⟨b, off, rfl, hb, hrow⟩ := (H.out.below HR.out.2.2 (Nat.le_refl _)).resolve_left (by intro h; rw [h] at hkl; simp at hkl)
      obtain ⟨c0, c1, c2⟩ := hrow k hkl
      generalize l[k] = o at *
      obtain ⟨ox, okd, oi⟩ := o
      dsimp only at c0 c1 c2
      have HV : Box (LisIn (wr.alloc (.cells #[.int .i64 ox, .int .i64 okd, .int .i64 oi] 53)) 0 ta t ∧ Below w.heap.size w (wr.alloc (.cells #[.int .i64 ox, .int .i64 okd, .int .i64 oi] 53)) ∧ Blk (wr.alloc (.cells #[.int .i64 ox, .int .i64 okd, .int .i64 oi] 53)) wr.heap.size 53 [.int .i64 ox, .int .i64 okd, .int .i64 oi]) := ⟨HR.out.2.1.below ((Below.refl _ _).alloc (Nat.le_refl _) _) (Nat.le_refl _), HR.out.2.2.alloc HBs.out _, Blk.new _ _ _⟩
      clear hrow
      go_upto_region 5 with (fail)
      refine name_world (fun W => LisIn W 0 ta t ∧ Below w.heap.size w W ∧ Blk W wr.heap.size 53 [.int .i64 ox, .int .i64 okd, .int .i64 oi]) HV.out ?_
      rintro W ⟨hw1, hw2, hw3⟩
      have HW : Box (LisIn W 0 ta t ∧ Below w.heap.size w W ∧ Blk W wr.heap.size 53 [.int .i64 ox, .int .i64 okd, .int .i64 oi]) := ⟨hw1, hw2, hw3⟩
      have x0 := hw3.cell (i := 0) rfl
      have x1 := hw3.cell (i := 1) rfl
      have x2 := hw3.cell (i := 2) rfl
      have xls := hw3.lt
      have HG := box HR.out.1
      clear HV HR hw1 hw2 hw3 c0 c1 c2 hb
      generalize wr.heap.size = A at *
      have hmd : 0 ≤ okd % 5 ∧ okd % 5 < 5 := by omega
      obtain ⟨md, hmd5, hmdE⟩ : ∃ md : Nat, md < 5 ∧ (okd % ((5 : Nat) : Int)).toNat = md := ⟨_, by omega, rfl⟩
      have HMd := box hmdE
      clear hmd hmdE
      have hsum : IntKind.i64.wrap ((md : Int) + 1) = (md : Int) + 1 := IntWalk.i64_in _ (by omega)
      have HAsk := box (fun wx (hx : LisIn wx 0 ta t) => ask_g t ta tc 0 ox oi ((md : Int) + 1) wx hx HG.out)
      rw [HTL.out] at HAsk
      go_region_held3 (fun w' => w'.cell? ⟨A, 0, none⟩ = some (.int .i64 ox) ∧ w'.cell? ⟨A, 1, none⟩ = some (.int .i64 okd) ∧ w'.cell? ⟨A, 2, none⟩ = some (.int .i64 oi)) (first | exact ⟨x0, x1, x2⟩ | assumption | exact ⟨z0, z1, z2⟩) (first
        | (go_at_call 26; refine (rest_any okd 5 _ (by omega) (by omega)).mono ?_; rintro e w5 ⟨rfl, rfl⟩; rw [HMd.out])
        | (go_at_call 25; refine (HAsk.out W.drew (HW.out.1.below (Below.refl _ _).drew (Nat.le_refl _))).mono ?_; rintro e w5 ⟨hb5, t1, a1, ca1, b1, e1, rfl, hG1, hL1⟩; have hK5 := HW.out.2.2.drew.after hb5; have z0 := hK5.cell (i := 0) rfl; have z1 := hK5.cell (i := 1) rfl; have z2 := hK5.cell (i := 2) rfl; have HX1 : Box (LkM.Good t1 ∧ LisIn w5 0 a1 t1 ∧ LisIn w5 0 ta t ∧ Below w.heap.size w w5) := ⟨hG1, hL1, (HW.out.1.below (Below.refl _ _).drew (Nat.le_refl _)).below hb5 (Nat.le_refl _), HW.out.2.1.drew.trans (hb5.mono HW.out.2.1.size)⟩; clear hb5 hG1 hL1 hK5)
        | fail)
      clear HW HAsk x0 x1 x2 xls HMd hsum z0 z1 z2
      obtain ⟨T1, HT1⟩ : ∃ x, Box (t1.length = x) := ⟨_, ⟨rfl⟩⟩
      rw [HT1.out]
      cases d0 : (e1 == 0) with
      | true =>
        have HY : Box (LkM.Good t1 ∧ LisIn w5 0 a1 t1 ∧ Below w.heap.size w w5) := ⟨HX1.out.1, HX1.out.2.1, HX1.out.2.2.2⟩
        clear HX1
        go_wp2_with fail
        go_roundw
        case rel => exact ⟨k + 1, t1, a1, ca1, by omega, by go_num, by rw [HT1.out], HY⟩
        case measure => simp [RowKit.intOf]; omega
      | false =>
        have HY : Box (LkM.Good t ∧ LisIn w5 0 ta t ∧ Below w.heap.size w w5) := ⟨HG.out, HX1.out.2.2.1, HX1.out.2.2.2⟩
        clear HX1
        go_wp2_with fail
        go_roundw
        case rel => exact ⟨k + 1, t, ta, tc, by omega, by go_num, by rw [HTL.out], HY⟩
        case measure => simp [RowKit.intOf]; omega
    · obtain rfl : k = N := by omega
      have dk : decide (k < k) = false := by simp
      have htl : TL ≤ 20 := by have := HR.out.1.len; have := HTL.out; omega
      have HG := box HR.out.1
      go_wp2_with fail
      have hwt := waits_g t ta tc 0 wr HR.out.2.1 HR.out.1
      rw [HTL.out] at hwt
      refine hwt.mono ?_
      clear hwt
      rintro e w6 ⟨hb6, ea, ec, rfl, heg, hel⟩
      have HX : Box (LisIn w6 0 ta t ∧ EgsAt w6 ea (LkM.waits t) ∧ Below w.heap.size w w6) := ⟨HR.out.2.1.below hb6 (Nat.le_refl _), heg, HR.out.2.2.trans (hb6.mono HR.out.2.2.size)⟩
      clear hb6 heg dk HR
      have HHit : Box (∀ x ∈ t, ∀ y ∈ x.queue, (LkM.waits t).any (fun e => e.frm == y.tx) = true) := ⟨fun x hx y hy => by
        obtain ⟨e, h1, h2⟩ := LkM.waits_hit HG.out hx hy
        exact List.any_eq_true.2 ⟨e, h1, by simpa using h2⟩⟩
      generalize LkM.waits t = es at *
      obtain ⟨EL, HEL⟩ : ∃ x, Box (es.length = x) := ⟨_, ⟨rfl⟩⟩
      rw [HEL.out] at hel ⊢
      go_wp2_with fail
      go_loopw [57] (fun t57 wr => ∃ i : Nat, i ≤ TL ∧ t57 = .int .i64 (i : Int) ∧ Box (LisIn wr 0 ta t ∧ EgsAt wr ea es ∧ Below w.heap.size w wr)) (fun t57 _ => TL - (RowKit.intOf t57).toNat)
      case atStart => exact ⟨0, Nat.zero_le _, rfl, HX⟩
      case round =>
        obtain ⟨i, hi, rfl, HR⟩ := hrel
        clear HX
        by_cases hiu : i < TL
        · have hil : i < t.length := by rw [HTL.out]; exact hiu
          obtain ⟨b, off, rfl, _, hb, hrow⟩ := HR.out.1.resolve_left (by intro h; rw [h] at hil; simp at hil)
          obtain ⟨ha, hc, qa, qc, hli⟩ := hrow i hil
          have HHx := box (HHit.out _ (List.getElem_mem hil))
          have HOk := box (HG.out.ok _ (List.getElem_mem hil))
          generalize t[i] = x at *
          obtain ⟨it, held, queue⟩ := x
          obtain ⟨c0, c1, c2, _, hQ, _, _, _, _⟩ := hli
          dsimp only at c0 c1 c2 hQ HHx
          have hQl : queue.length ≤ 12 := LkM.okl_len HOk.out.queue
          have hal : Below wr.heap.size wr (wr.alloc (.cells #[.int .i64 it, .slice ha held.length hc, .slice qa queue.length qc] 72)) := (Below.refl _ _).alloc (Nat.le_refl _) _
          have HW5 : Box (LisIn (wr.alloc (.cells #[.int .i64 it, .slice ha held.length hc, .slice qa queue.length qc] 72)) 0 (some ⟨b, off, none⟩) t ∧ EgsAt (wr.alloc (.cells #[.int .i64 it, .slice ha held.length hc, .slice qa queue.length qc] 72)) ea es ∧ Below w.heap.size w (wr.alloc (.cells #[.int .i64 it, .slice ha held.length hc, .slice qa queue.length qc] 72)) ∧ LksAt (wr.alloc (.cells #[.int .i64 it, .slice ha held.length hc, .slice qa queue.length qc] 72)) qa queue) := ⟨HR.out.1.below hal (Nat.le_refl _), HR.out.2.1.below hal (Nat.le_refl _), HR.out.2.2.trans (hal.mono HR.out.2.2.size), hQ.at.below hal (Nat.le_refl _)⟩
          obtain ⟨QL, HQL⟩ : ∃ x, Box (queue.length = x) := ⟨_, ⟨rfl⟩⟩
          obtain ⟨HL, HHL⟩ : ∃ x, Box (held.length = x) := ⟨_, ⟨rfl⟩⟩
          rw [HQL.out, HHL.out] at HW5
          rw [HQL.out] at hQl c2
          rw [HHL.out] at c1
          clear hal hrow hQ HR
          go_wp2_with fail
          go_loopw [64] (fun t64 wr => ∃ j : Nat, j ≤ QL ∧ t64 = .int .i64 (j : Int) ∧ Box (LisIn wr 0 (some ⟨b, off, none⟩) t ∧ EgsAt wr ea es ∧ Below w.heap.size w wr ∧ LksAt wr qa queue)) (fun t64 _ => QL - (RowKit.intOf t64).toNat)
          case atStart => exact ⟨0, Nat.zero_le _, rfl, HW5⟩
          case round =>
            obtain ⟨j, hj, rfl, HJ⟩ := hrel
            clear HW5
            by_cases hjc : j < QL
            · have hjl : j < queue.length := by rw [HQL.out]; exact hjc
              obtain ⟨cb, coff, rfl, hcb, hcrow⟩ := HJ.out.2.2.2.resolve_left (by intro h; rw [h] at hjl; simp at hjl)
              obtain ⟨y0, y1⟩ := hcrow j hjl
              have hany := HHx.out _ (List.getElem_mem hjl)
              generalize queue[j] = y at *
              obtain ⟨yt, ym⟩ := y
              dsimp only at y0 y1 hany
              have hal : Below wr.heap.size wr (wr.alloc (.cells #[.int .i64 yt, .int .i64 ym] 74)) := (Below.refl _ _).alloc (Nat.le_refl _) _
              have hA := Blk.new wr [.int .i64 yt, .int .i64 ym] 74
              have HY : Box (LisIn (wr.alloc (.cells #[.int .i64 yt, .int .i64 ym] 74)) 0 (some ⟨b, off, none⟩) t ∧ EgsAt (wr.alloc (.cells #[.int .i64 yt, .int .i64 ym] 74)) ea es ∧ Below w.heap.size w (wr.alloc (.cells #[.int .i64 yt, .int .i64 ym] 74)) ∧ LksAt (wr.alloc (.cells #[.int .i64 yt, .int .i64 ym] 74)) (some ⟨cb, coff, none⟩) queue) := ⟨HJ.out.1.below hal (Nat.le_refl _), HJ.out.2.1.below hal (Nat.le_refl _), HJ.out.2.2.1.trans (hal.mono HJ.out.2.2.1.size), HJ.out.2.2.2.below hal (Nat.le_refl _)⟩
              have hcf := containsFunc_egs es ea ec 29 #[.pointer (some ⟨wr.heap.size, 0, none⟩)] (fun e => e.frm == yt) (wr.alloc (.cells #[.int .i64 yt, .int .i64 ym] 74)) HY.out.2.1 (by rw [HEL.out]; omega) (fun W hb x _ => lockAll_f W x yt _ (hA.after hb |>.cell (i := 0) rfl) (hA.after hb).lt) (enters_fn Try.func29 (by kernel_rfl) rfl)
              rw [hany, HEL.out] at hcf
              have HCf := box hcf
              clear hcrow HJ hany hal hA hcf
              go_wp2_with fail
              refine HCf.out.mono ?_
              rintro e w7 ⟨rfl, hb7⟩
              have HZ : Box (LisIn w7 0 (some ⟨b, off, none⟩) t ∧ EgsAt w7 ea es ∧ Below w.heap.size w w7 ∧ LksAt w7 (some ⟨cb, coff, none⟩) queue) := ⟨HY.out.1.below hb7 (Nat.le_refl _), HY.out.2.1.below hb7 (Nat.le_refl _), HY.out.2.2.1.trans (hb7.mono HY.out.2.2.1.size), HY.out.2.2.2.below hb7 (Nat.le_refl _)⟩
              clear hb7 HY HCf
              go_wp2_with fail
              go_roundw
              case rel => exact ⟨j + 1, by omega, by go_num, HZ⟩
              case measure => simp [RowKit.intOf]; omega
            · obtain rfl : j = QL := by omega
              have HY : Box (LisIn wr 0 (some ⟨b, off, none⟩) t ∧ EgsAt wr ea es ∧ Below w.heap.size w wr) := ⟨HJ.out.1, HJ.out.2.1, HJ.out.2.2.1⟩
              have dj : decide (j < j) = false := by simp
              clear HJ
              go_wp2_with fail
              go_roundw
              case rel => exact ⟨i + 1, by omega, by go_num, HY⟩
              case measure => simp [RowKit.intOf]; omega
        · obtain rfl : i = TL := by omega
          have di : decide (i < i) = false := by simp
          have HX : Box (LisIn wr 0 ta t ∧ Below w.heap.size w wr) := ⟨HR.out.1, HR.out.2.2⟩
          clear HR
          go_wp2_with fail
          refine (ask_nil 0 1 1 3 wr (by decide)).mono ?_
          rintro e w7 ⟨hb7, a7, c7, rfl, hL7⟩
          have HX7 : Box (LisIn w7 0 ta t ∧ Below w.heap.size w w7 ∧ LisIn w7 0 a7 LkM.ex1) := ⟨HX.out.1.below hb7 (Nat.le_refl _), HX.out.2.trans (hb7.mono HX.out.2.size), hL7.mono (Nat.zero_le _)⟩
          clear hb7 hL7 HX di
          go_wp2_with fail
          refine (ask_ex a7 c7 0 w7 HX7.out.2.2).mono ?_
          rintro e w8 ⟨hb8, a8, c8, rfl, hL8⟩
          have HX8 : Box (LisIn w8 0 ta t ∧ Below w.heap.size w w8 ∧ LisIn w8 0 a8 LkM.ex2) := ⟨HX7.out.1.below hb8 (Nat.le_refl _), HX7.out.2.1.trans (hb8.mono HX7.out.2.1.size), hL8.mono (Nat.zero_le _)⟩
          clear hb8 hL8 HX7
          go_wp2_with fail
          refine (waits_g LkM.ex2 a8 c8 0 w8 HX8.out.2.2 LkM.ex2_good).mono ?_
          rintro e w9 ⟨hb9, a9, c9, rfl, hE9, _⟩
          have hex : LkM.waits LkM.ex2 = [⟨2, 1⟩] := by decide
          rw [hex] at hE9
          have hexl : (LkM.waits LkM.ex2).length = 1 := by rw [hex]; rfl
          rw [hexl]
          have HX9 : Box (LisIn w9 0 ta t ∧ Below w.heap.size w w9 ∧ EgsAt w9 a9 [⟨2, 1⟩]) := ⟨HX8.out.1.below hb9 (Nat.le_refl _), HX8.out.2.1.trans (hb9.mono HX8.out.2.1.size), hE9⟩
          clear hb9 hE9 HX8 hex hexl
          have hal : Below w9.heap.size w9 (w9.alloc (.cells #[.int .i64 2, .int .i64 1] 46)) := (Below.refl _ _).alloc (Nat.le_refl _) _
          have hA := Blk.new w9 [.int .i64 2, .int .i64 1] 46
          have HEq := box (equal_egs [⟨2, 1⟩] [⟨2, 1⟩] a9 (some ⟨w9.heap.size, 0, none⟩) c9 1 _ (HX9.out.2.2.below hal (Nat.le_refl _)) (Or.inr ⟨w9.heap.size, 0, rfl, hA.lt, fun k hk => by
            obtain rfl : k = 0 := by simpa using hk
            exact ⟨hA.cell (i := 0) rfl, hA.cell (i := 1) rfl⟩⟩) (by decide) (by decide))
          have HY : Box (LisIn (w9.alloc (.cells #[.int .i64 2, .int .i64 1] 46)) 0 ta t ∧ Below w.heap.size w (w9.alloc (.cells #[.int .i64 2, .int .i64 1] 46))) := ⟨HX9.out.1.below hal (Nat.le_refl _), HX9.out.2.1.trans (hal.mono HX9.out.2.1.size)⟩
          clear hal hA HX9
          go_wp2_with fail
          refine HEq.out.mono ?_
          rintro e w10 ⟨rfl, n10, rfl⟩
          have HZ : Box (LkM.Good t ∧ LisIn ((w9.alloc (.cells #[.int .i64 2, .int .i64 1] 46)).drewN n10) 0 ta t ∧ Below w.heap.size w ((w9.alloc (.cells #[.int .i64 2, .int .i64 1] 46)).drewN n10) ∧ ∀ z : Int, 0 ≤ z → z < ((0 : Nat) : Int) → ¬ LkM.named t z) := ⟨HG.out, HY.out.1.below ⟨rfl, rfl, rfl, Nat.le_refl _, fun _ _ => rfl⟩ (Nat.le_refl _), HY.out.2.trans ⟨rfl, rfl, rfl, Nat.le_refl _, fun _ _ => rfl⟩, fun z h1 h2 => by omega⟩
          generalize (w9.alloc (.cells #[.int .i64 2, .int .i64 1] 46)).drewN n10 = W10 at *
          clear HEq HY
          go_wp2_with fail
          go_loopw [3, 110] (fun t3 t110 wr => ∃ (k : Nat) (t : List LiM) (ta : Option Addr) (tc : Nat), k ≤ 12 ∧ t110 = .int .i64 (k : Int) ∧ t3 = .slice ta t.length tc ∧ Box (LkM.Good t ∧ LisIn wr 0 ta t ∧ Below w.heap.size w wr ∧ ∀ z : Int, 0 ≤ z → z < (k : Int) → ¬ LkM.named t z)) (fun _ t110 _ => 12 - (RowKit.intOf t110).toNat)
          case atStart => exact ⟨0, t, ta, tc, Nat.zero_le _, rfl, by rw [HTL.out], HZ⟩
          case round =>
            obtain ⟨q, u, ua, uc, hq, rfl, rfl, HQ⟩ := hrel
            clear HZ
            obtain ⟨UL, HUL⟩ : ∃ x, Box (u.length = x) := ⟨_, ⟨rfl⟩⟩
            rw [HUL.out]
            by_cases hq12 : q < 12
            · have hqi : (q : Int) < 12 := by omega
              have hdr := drop_g u ua uc 0 (q : Int) wr HQ.out.2.1 HQ.out.1
              rw [HUL.out] at hdr
              have HDr := box hdr
              clear hdr
              go_wp2_with fail
              refine HDr.out.mono ?_
              rintro e w11 ⟨hb11, u2, g2, a11, c11, ga2, gc2, e2, rfl, hf2, hl2, _⟩
              obtain rfl : e2 = 0 := hf2.yes ⟨by omega, hqi⟩
              have HY : Box (LkM.Good u2 ∧ LisIn w11 0 a11 u2 ∧ Below w.heap.size w w11 ∧ ∀ z : Int, 0 ≤ z → z < ((q + 1 : Nat) : Int) → ¬ LkM.named u2 z) := ⟨hf2.good, hl2, HQ.out.2.2.1.trans (hb11.mono HQ.out.2.2.1.size), fun z h1 h2 hn => by
                by_cases e : z = (q : Int)
                · subst e
                  obtain ⟨x, hx, y, hy, h3⟩ := hn
                  exact (hf2.gone rfl).1 x hx y hy h3
                · exact HQ.out.2.2.2 z h1 (by omega) ((hf2.gone rfl).2.2 z hn)⟩
              clear hb11 hf2 hl2 HQ HDr
              go_wp2_with fail
              go_roundw
              case rel => exact ⟨q + 1, u2, a11, c11, by omega, by go_num, rfl, HY⟩
              case measure => simp [RowKit.intOf]; omega
            · obtain rfl : q = 12 := by omega
              have hu : u = [] := HQ.out.1.empty fun z h1 h2 => HQ.out.2.2.2 z h1 (by omega)
              have hu0 : UL = 0 := by rw [← HUL.out, hu]; rfl
              have HB := box HQ.out.2.2.1
              clear hu HUL HQ
              subst hu0
              go_wp2_with fail
              go_ret
              exact ⟨rfl, HB.out⟩
namespace lawLockAll
open Go.ChangeShapes Go.WideShapes Go.ChangeAt Go.RowKit Go.ChangeMaps

set_option maxRecDepth 100000 in
theorem lifted (os : Os) (started : os.Started) (H : Type) (enc : TypeId × Value → H) :
    ReturnsInHanded {} Try.checked os 8 .any (Rows.lockAllSpec.pre6 enc Try.prog Try.f8 [] false) (Rows.lockAllSpec.post enc Try.prog Try.f8 false true false false) := by
  refine LawKit.law_lifted started (by kernel_rfl) Try.func8 rfl
    (fun ds h => by
      match ds, h with
      | [_], _ => rfl)
    rfl Try.underlying4 (by intro t ht; exact of_decide_eq_true (p := Try.prog.readableRec t = true ∧ t < Try.prog.types.size) (by revert t ht; decide +kernel))
    (ChangeSpec.witness6 (enc := enc) (C := Try.checked) false ⟨#[], #[.slice none 0 0], []⟩ 8 (by kernel_rfl) (by kernel_rfl) (by kernel_rfl) (by kernel_rfl)) ?_
  intro W base args ds ps hval hA hsz hlt hfz
  have hA' := hA
  rw [Try.params8] at hA hval
  obtain ⟨v0, vs0, d0, ds0, p0, q0, hargs, rfl, rfl, h0, r0⟩ := trodAll_cons hA
  obtain ⟨rfl, rfl, rfl⟩ := trodAll_nil r0
  obtain rfl : args = #[v0] := by cases args; simp_all
  obtain ⟨ao, cap, ls, rfl, hnil, hat, hfits, _, _⟩ := open_ops (hval 0 _ _ rfl rfl) h0 (Open.weights_bound hsz (j := 0) (by rw [Try.params8]; rfl) rfl)
  refine (lockAll_calls ls ao cap W hat hfits).mono ?_
  rintro e W' ⟨rfl, hb⟩
  exact ⟨rfl, hb⟩

theorem proved : Rows.LockAllSaid :=
  OpenClaim.holds_of_wide 8 Try.f8 rfl rfl rfl rfl rfl rfl rfl ⟨rfl, rfl, rfl, rfl, rfl⟩ rfl rfl rfl rfl rfl (by kernel_rfl) Try.func8 (by kernel_rfl)
    (of_decide_eq_true (by kernel_rfl)) (by unfold Func.isWrapper; first | (rw [if_pos (by decide +kernel)]; kernel_rfl) | (rw [if_neg (by decide +kernel)]; exact ⟨rfl, rfl⟩))
    (fun os started H enc _ => lifted os started H enc)
end lawLockAll
end Go.Proofs.Ytgkclgmekbgjmaa
