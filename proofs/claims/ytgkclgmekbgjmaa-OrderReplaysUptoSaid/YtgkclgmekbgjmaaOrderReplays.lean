/- OrderReplays, where what comes in is of bulk at most 1048576: one behind another, in the order that is told, each one reads what it read, and each item is written in its order. -/
import Derived.Test.YtgkclgmekbgjmaaDepG
import Derived.Test.YtgkclgmekbgjmaaStoOpen
import Derived.Test.YtgkclgmekbgjmaaIntEq
namespace Go.Proofs.Ytgkclgmekbgjmaa
open Go.RowKit Go.Lib

/-- The story of the example. -/
def StoL.ex2 (N : Nat) : StoL := ⟨[⟨1, some ⟨N + 1, 0, none⟩, 1, [⟨0, -1⟩]⟩, ⟨2, none, 0, []⟩], some ⟨N + 1 + 1, 0, none⟩, 2, [⟨some ⟨N + 1 + 1 + 1, 0, none⟩, 1, [2]⟩], some ⟨N + 1 + 1 + 1 + 1, 0, none⟩, 1⟩
theorem StoL.ex2_ok (N : Nat) : (StoL.ex2 N).Ok := by
  refine ⟨by simp [StoL.ex2], by simp [StoL.ex2], fun i hi => ?_, fun k hk => ?_⟩
  · rcases (show i = 0 ∨ i = 1 by simp [StoL.ex2] at hi; omega) with rfl | rfl
    · refine ⟨by simp [StoL.ex2], by simp [StoL.ex2], by omega, fun g hg => ?_⟩
      simp [StoL.ex2] at hg
      subst hg
      exact ⟨by simp, by simp [StoL.ex2], by simp [StoL.ex2], Or.inl rfl⟩
    · refine ⟨by simp [StoL.ex2], by simp [StoL.ex2], fun _ => by simp [StoL.ex2], fun g hg => ?_⟩
      simp [StoL.ex2] at hg
  · obtain rfl : k = 0 := by simp [StoL.ex2] at hk; exact hk
    intro i hi
    obtain rfl : i = 0 := by simp [StoL.ex2] at hi; exact hi
    exact ⟨by simp, ⟨2, none, 0, []⟩, by simp [StoL.ex2], rfl⟩
theorem StoL.ex2_deps (N : Nat) : (StoL.ex2 N).deps = [⟨1, 2, 3⟩] := by
  rfl
theorem StoL.ex2_turn (N : Nat) : GrM.order 12 ((StoL.ex2 N).edges 3) = some (List.range 12) ∧ (StoL.ex2 N).turn (List.range 12) = [1, 2] := by
  have h1 : (StoL.ex2 N).edges 3 = [⟨1, 2⟩] := by
    unfold StoL.edges StoL.told
    rw [StoL.ex2_deps]
    have h2 : DepM.sorted [⟨1, 2, 3⟩] = [⟨1, 2, 3⟩] := by unfold DepM.sorted; exact List.mergeSort_singleton _
    rw [h2]; rfl
  rw [h1]
  exact ⟨by decide +kernel, rfl⟩
/-- The example in memory. -/
structure StoL.Ex2At (w : World) (c0 c1 : Value) (W : World) : Prop where
  below : Below w.heap.size w W
  arg : Blk W w.heap.size 25 [c0, c1]
  at_ : StoAt W (StoL.ex2 w.heap.size)
  ex : Blk W (w.heap.size + 1 + 1 + 1 + 1 + 1) 25 [.slice (some ⟨w.heap.size + 1 + 1, 0, none⟩) 2 2, .slice (some ⟨w.heap.size + 1 + 1 + 1 + 1, 0, none⟩) 1 1]
set_option maxHeartbeats 2000000 in
theorem StoL.ex2_at (w : World) (c0 c1 : Value) : StoL.Ex2At w c0 c1 ((((((w.alloc (.cells #[c0, c1] 25)).alloc (.cells #[.int .i64 0, .int .i64 (-1)] 27)).alloc
      (.cells #[.int .i64 1, .slice (some ⟨w.heap.size + 1, 0, none⟩) 1 1, .int .i64 2, .slice none 0 0] 30)).alloc (.cells #[.int .i64 2] 3)).alloc
      (.cells #[.slice (some ⟨w.heap.size + 1 + 1 + 1, 0, none⟩) 1 1] 31)).alloc
      (.cells #[.slice (some ⟨w.heap.size + 1 + 1, 0, none⟩) 2 2, .slice (some ⟨w.heap.size + 1 + 1 + 1 + 1, 0, none⟩) 1 1] 25)) := by
  generalize hW : ((((((w.alloc (.cells #[c0, c1] 25)).alloc (.cells #[.int .i64 0, .int .i64 (-1)] 27)).alloc
      (.cells #[.int .i64 1, .slice (some ⟨w.heap.size + 1, 0, none⟩) 1 1, .int .i64 2, .slice none 0 0] 30)).alloc (.cells #[.int .i64 2] 3)).alloc
      (.cells #[.slice (some ⟨w.heap.size + 1 + 1 + 1, 0, none⟩) 1 1] 31)).alloc
      (.cells #[.slice (some ⟨w.heap.size + 1 + 1, 0, none⟩) 2 2, .slice (some ⟨w.heap.size + 1 + 1 + 1 + 1, 0, none⟩) 1 1] 25)) = W
  have hb : Below w.heap.size w W := by
    subst hW
    exact ((((((Below.refl _ _).alloc (Nat.le_refl _) _).alloc (by simp) _).alloc (by simp; omega) _).alloc (by simp; omega) _).alloc (by simp; omega) _).alloc (by simp; omega) _
  have b0 : Blk W w.heap.size 25 [c0, c1] := by subst hW; exact (((((Blk.new' (by simp) _ _).alloc _).alloc _).alloc _).alloc _).alloc _
  have b1 : Blk W (w.heap.size + 1) 27 [.int .i64 0, .int .i64 (-1)] := by subst hW; exact ((((Blk.new' (by simp) _ _).alloc _).alloc _).alloc _).alloc _
  have b2 : Blk W (w.heap.size + 1 + 1) 30 [.int .i64 1, .slice (some ⟨w.heap.size + 1, 0, none⟩) 1 1, .int .i64 2, .slice none 0 0] := by subst hW; exact (((Blk.new' (by simp) _ _).alloc _).alloc _).alloc _
  have b3 : Blk W (w.heap.size + 1 + 1 + 1) 3 [.int .i64 2] := by subst hW; exact ((Blk.new' (by simp) _ _).alloc _).alloc _
  have b4 : Blk W (w.heap.size + 1 + 1 + 1 + 1) 31 [.slice (some ⟨w.heap.size + 1 + 1 + 1, 0, none⟩) 1 1] := by subst hW; exact (Blk.new' (by simp) _ _).alloc _
  have b5 : Blk W (w.heap.size + 1 + 1 + 1 + 1 + 1) 25 [.slice (some ⟨w.heap.size + 1 + 1, 0, none⟩) 2 2, .slice (some ⟨w.heap.size + 1 + 1 + 1 + 1, 0, none⟩) 1 1] := by subst hW; exact Blk.new' (by simp) _ _
  clear hW
  refine ⟨hb, b0, ⟨?_, ?_, ?_, ?_, ?_, ?_, by simp [StoL.ex2]⟩, b5⟩
  · refine Or.inr ⟨_, 0, rfl, b2.lt, fun k hk => ?_⟩
    rcases (show k = 0 ∨ k = 1 by simp [StoL.ex2] at hk; omega) with rfl | rfl
    · exact ⟨b2.cell rfl, b2.cell rfl⟩
    · exact ⟨b2.cell rfl, b2.cell rfl⟩
  · intro t ht
    simp [StoL.ex2] at ht
    rcases ht with rfl | rfl
    · refine Or.inr ⟨_, 0, rfl, b1.lt, fun k hk => ?_⟩
      obtain rfl : k = 0 := by simp at hk; exact hk
      exact ⟨b1.cell rfl, b1.cell rfl⟩
    · exact Or.inl rfl
  · refine Or.inr ⟨_, 0, rfl, b4.lt, fun k hk => ?_⟩
    obtain rfl : k = 0 := by simp [StoL.ex2] at hk; exact hk
    exact b4.cell rfl
  · intro v hv
    simp [StoL.ex2] at hv
    subst hv
    refine Or.inr ⟨_, 0, rfl, b3.lt, fun k hk => ?_⟩
    obtain rfl : k = 0 := by simp at hk; exact hk
    exact b3.cell rfl
  · intro v hv
    simp [StoL.ex2] at hv
    subst hv; simp
  · intro t ht
    simp [StoL.ex2] at ht
    rcases ht with rfl | rfl <;> simp

set_option maxRecDepth 20000 in
set_option maxHeartbeats 16000000 in
theorem orderReplays_law (s : StoL) (w : World) (h : StoAt w s) (hsm : ∀ t ∈ s.tls, t.gs.length ≤ 1048576) :
    Calls Try.prog 3 #[.agg #[.slice s.ta s.tls.length s.tc, .slice s.ra s.vrs.length s.rc]] w fun e w' => e = .returned (.bool true) ∧ Below w.heap.size w w' := by
  have H := box h; have HSm := box hsm
  have HS := box (fun wx (hb : Below w.heap.size w wx) => orderSerial_any s wx (h.below hb (Nat.le_refl _)) hsm)
  obtain ⟨n, HN⟩ : ∃ n, Box (s.tls.length = n) := ⟨_, ⟨rfl⟩⟩
  obtain ⟨m, HM⟩ : ∃ m, Box (s.vrs.length = m) := ⟨_, ⟨rfl⟩⟩
  rw [HN.out, HM.out] at HS ⊢
  clear h hsm
  go_enter Try.func3, Try.ntmps3
  go_upto_region 2 with (fail)
  refine name_world (StoL.Ex2At w (.slice s.ta n s.tc) (.slice s.ra m s.rc)) (StoL.ex2_at w _ _) ?_
  generalize hN7 : w.heap.size + 1 + 1 + 1 + 1 + 1 = N7
  rintro W ⟨hb, hs, he, hx⟩
  rw [hN7] at hx
  have HB := box hb; have HS0 := box hs
  have HX1 := box (orderSerial_any (StoL.ex2 w.heap.size) W he (by intro t ht; simp [StoL.ex2] at ht; rcases ht with rfl | rfl <;> simp))
  have HX2 := box (StoL.ex2_turn w.heap.size)
  have HX3 := box (StoL.ex2_ok w.heap.size)
  have x0 := hx.cell (i := 0) rfl
  have x1 := hx.cell (i := 1) rfl
  clear hb hs he hx hN7
  go_wp2_with fail
  refine HX1.out.mono ?_
  rintro e w1 ⟨hb1, ⟨hno, _⟩ | ⟨_, hno, _⟩ | ⟨_, r, v, ho, rfl, hown⟩⟩
  · exact absurd HX3.out hno
  · rw [HX2.out.1] at hno; cases hno
  rw [HX2.out.1] at ho
  injection ho with ho
  subst ho
  rw [HX2.out.2] at hown
  obtain ⟨vo, vc, rfl, _, hat, _, _⟩ := IntsAt.own hown
  have HB1 := box (below_tr HB.out hb1)
  have HS1 := box (HS0.out.after hb1)
  have HEq : Box (∀ W' : World, ∀ c, Below w1.heap.size w1 W' → IntsAt W' (some ⟨c, 0, none⟩) [1, 2] → Calls Try.prog 14 #[.slice vo 2 vc, .slice (some ⟨c, 0, none⟩) 2 2] W' fun e w' => e = .returned (.bool true) ∧ ∃ n, w' = W'.drewN n) := ⟨fun W' c hb h => equalInts_same [1, 2] vo _ vc 2 W' (hat.below hb (Nat.le_refl _)) h (by simp)⟩
  clear HX1 HX2 HX3 hb1 HB HS0 x0 x1 hown hat
  rw [show (([1, 2] : List Int)).length = 2 from rfl]
  go_wp2_with fail
  refine (HEq.out _ _ ((Below.refl _ _).alloc (Nat.le_refl _) _) (Or.inr ⟨w1.heap.size, 0, rfl, by simp, fun k hk => ?_⟩)).mono ?_
  · have hB := Blk.new w1 (intVals [1, 2]) 3
    rw [Nat.zero_add]
    exact hB.cell (intVals_get hk)
  rintro e w2 ⟨rfl, nq, rfl⟩
  go_upto_region 5 with (fail)
  refine name_world (fun V => Below w.heap.size w V ∧ Blk V w.heap.size 25 [.slice s.ta n s.tc, .slice s.ra m s.rc]) ⟨(HB1.out.alloc HB1.out.size _).trans ⟨rfl, rfl, rfl, Nat.le_refl _, fun _ _ => rfl⟩, (HS1.out.alloc _).drewN nq⟩ ?_
  rintro V ⟨hb, hs⟩
  have HB := box hb; have HS0 := box hs
  have p0 := hs.cell (i := 0) rfl
  have p1 := hs.cell (i := 1) rfl
  clear hb hs HB1 HS1 HEq
  go_wp2_with fail
  refine (HS.out V HB.out).mono ?_
  rintro e w2 ⟨hb2, hc⟩
  have HB2 := box (below_tr HB.out hb2)
  have HS2 := box (HS0.out.after hb2)
  have HSz := box HB.out.size
  clear hb2 p0 p1 HS HB HS0
  rcases hc with ⟨hno, c, hc0, _, rfl⟩ | ⟨_, ho, rfl⟩ | ⟨hok, r, v, ho, rfl, hown⟩
  · have q1 : (c == 0) = false := by simpa using hc0
    have q2 : (c != 0) = true := by simpa using hc0
    clear hno hc0
    go_wp2_with fail
    go_ret
    exact ⟨rfl, HB2.out⟩
  · clear ho
    go_wp2_with fail
    go_ret
    exact ⟨rfl, HB2.out⟩
  have HTo := box (StoL.topo hok ho)
  have HOk := box hok
  have HLen := box (StoL.Topo.len hok HTo.out)
  obtain ⟨T, HT⟩ : ∃ T, Box (s.turn r = T) := ⟨_, ⟨rfl⟩⟩
  rw [HT.out] at hown HTo HLen
  obtain ⟨to_, tcap, rfl, _, hat, _, _⟩ := IntsAt.own hown
  have HAt := box hat
  have hn12 := hok.1
  have hm20 := hok.2.1
  rw [HN.out] at hn12 HLen
  rw [HM.out] at hm20
  obtain ⟨tn, HTn⟩ : ∃ tn, Box (T.length = tn) := ⟨_, ⟨rfl⟩⟩
  obtain rfl : tn = n := HTn.out.symm.trans HLen.out
  rw [HTn.out]
  clear HLen hat hown ho hok HT
  obtain ⟨i0, hi0, hz0, hz1, hz2⟩ := info_parts Try.infoIntG
  have hmk := run_make_tab (P := Try.prog) w2 31 3 i0 (.int .i64 0) Try.underlying31 hi0 hz0 hz1 rfl m (by rw [hz2]; omega) (by omega)
  have p1 := HS2.out.cell (i := 1) rfl
  obtain ⟨W3, HW3⟩ : ∃ x, Box (w2.alloc (.cells (Tab m (fun _ => (Value.int .i64 0))).toArray 3) = x) := ⟨_, ⟨rfl⟩⟩
  have HR3 : Box (Below w2.heap.size w2 W3 ∧ ITab W3 w2.heap.size m (fun _ => 0)) := ⟨by
    rw [← HW3.out]
    exact ⟨(Below.refl _ _).alloc (Nat.le_refl _) _, Blk.new w2 (Tab m (fun _ => (Value.int .i64 0))) 3⟩⟩
  rw [HW3.out] at hmk
  obtain ⟨A, HA⟩ : ∃ A, Box (w2.heap.size = A) := ⟨_, ⟨rfl⟩⟩
  rw [HA.out] at hmk HR3
  clear HW3 hi0 hz0 hz1 hz2
  go_wp2_with fail
  go_loopw [56] (fun t56 wr => ∃ k : Nat, k ≤ m ∧ t56 = .int .i64 (k : Int) ∧ Box (Below A w2 wr ∧ ITab wr A m (fun x => if x < k then -1 else 0))) (fun t56 _ => m - (RowKit.intOf t56).toNat)
  case atStart => exact ⟨0, Nat.zero_le _, rfl, ⟨HR3.out.1, HR3.out.2.congr (fun i _ => by simp)⟩⟩
  case round =>
    obtain ⟨k, hk, rfl, HR⟩ := hrel
    clear HR3 hmk
    by_cases hkt : k < m
    · have a0 := HR.out.2.cell hkt
      have f0 := Blk.frozen HR.out.2 k
      have hge : ¬ (k < k) := by omega
      have HN2 : Box (Below A w2 (wr.setCell ⟨A, k, none⟩ (.int .i64 (-1))) ∧ ITab (wr.setCell ⟨A, k, none⟩ (.int .i64 (-1))) A m (fun x => if x < k + 1 then -1 else 0)) := ⟨HR.out.1.setCell (Nat.le_refl _) _, (HR.out.2.set k (-1)).congr (fun i _ => by
        unfold upd
        dsimp only
        by_cases e : i = k
        · rw [if_pos e, if_pos (by omega)]
        · rw [if_neg e]
          by_cases e2 : i < k
          · rw [if_pos e2, if_pos (by omega)]
          · rw [if_neg e2, if_neg (by omega)])⟩
      clear hge
      go_wp2_with fail
      go_roundw
      case rel => exact ⟨k + 1, by omega, by go_num, HN2⟩
      case measure => simp [RowKit.intOf]; omega
    · obtain ⟨L, HL⟩ : ∃ L : Nat → Nat → Int, Box (L = fun q i => StoL.lastOf (s.vrs[i]!).vs (T.take q)) := ⟨_, ⟨rfl⟩⟩
      have HR0 : Box (Below A w2 wr ∧ ITab wr A m (L 0)) := ⟨HR.out.1, HR.out.2.congr (fun i hi => by
        rw [HL.out, if_pos (by omega)]
        show StoL.lastOf (s.vrs[i]!).vs (T.take 0) = -1
        rw [List.take_zero]
        unfold StoL.lastOf
        rw [List.filter_eq_nil_iff.2 (fun a _ => by simp)]; rfl)⟩
      have HTt : Box (∀ wx, Below A w2 wx → IntsAt wx to_ T) := ⟨fun wx hb => HAt.out.below hb (by rw [HA.out]; exact Nat.le_refl _)⟩
      have HwA : Box (w.heap.size < A) := ⟨by rw [← HA.out]; exact HS2.out.lt⟩
      have HSa : Box (∀ wx, Below A w2 wx → Blk wx w.heap.size 25 [.slice s.ta tn s.tc, .slice s.ra m s.rc]) := ⟨fun wx hb => HS2.out.below hb HwA.out⟩
      have HBa : Box (∀ wx, Below A w2 wx → Below w.heap.size w wx) := ⟨fun wx hb => HB2.out.trans (hb.mono (by have := HwA.out; omega))⟩
      clear HR HS2 HAt
      go_wp2_with fail
      go_loopw [65] (fun t65 wr => ∃ q : Nat, q ≤ tn ∧ t65 = .int .i64 (q : Int) ∧ Box (Below A w2 wr ∧ ITab wr A m (L q))) (fun t65 _ => tn - (RowKit.intOf t65).toNat)
      case atStart => exact ⟨0, Nat.zero_le _, rfl, HR0⟩
      case round =>
        obtain ⟨q, hq, rfl, HQ⟩ := hrel
        clear HR0
        by_cases hqt : q < tn
        · have hql : q < T.length := by rw [HTn.out]; exact hqt
          obtain ⟨tb, toff, hta, _, hrow⟩ := (HTt.out _ HQ.out.1).resolve_left (by intro h; rw [h] at hql; simp at hql)
          subst hta
          have c0 := hrow q hql
          have s0 := (HSa.out _ HQ.out.1).cell (i := 0) rfl
          obtain ⟨x, HX⟩ : ∃ x, Box (T[q] = x) := ⟨_, ⟨rfl⟩⟩
          have HRd : Box (∀ u ∈ s.tls, u.tx = x → ∀ g ∈ u.gs, L q g.frm.toNat = g.to_) := ⟨fun u hu hux g hg => by
            rw [HL.out]
            exact HTo.out.reads HOk.out hql hu (by rw [HX.out]; exact hux) hg⟩
          rw [HX.out] at c0
          clear hrow
          go_wp2_with fail
          go_loopw [72] (fun t72 wr => ∃ k : Nat, k ≤ tn ∧ t72 = .int .i64 (k : Int) ∧ Box (Below A w2 wr ∧ ITab wr A m (L q))) (fun t72 _ => tn - (RowKit.intOf t72).toNat)
          case atStart => exact ⟨0, Nat.zero_le _, rfl, HQ⟩
          case round =>
            obtain ⟨k, hk, rfl, HK⟩ := hrel
            clear HQ c0 s0
            by_cases hkt : k < tn
            · have hkl : k < s.tls.length := by rw [HN.out]; exact hkt
              have hst := H.out.below (HBa.out _ HK.out.1) (Nat.le_refl _)
              obtain ⟨sb, soff, hsa, _, hrow⟩ := hst.tl.resolve_left (by intro h; rw [h] at hkl; simp at hkl)
              obtain ⟨c0, c1⟩ := hrow k hkl
              have HGs : Box (∀ wx, Below w.heap.size w wx → EgsAt wx s.tls[k].ga s.tls[k].gs) := ⟨fun wx hb => (H.out.below hb (Nat.le_refl _)).gs _ (List.getElem_mem hkl)⟩
              have hgl := HSm.out _ (List.getElem_mem hkl)
              have HG := box (fun g hg => HOk.out.got (List.getElem_mem hkl) (g := g) hg)
              have HRu := box (HRd.out _ (List.getElem_mem hkl))
              rw [hsa] at *
              generalize s.tls[k] = U at *
              obtain ⟨tx, ga, gc, gs⟩ := U
              simp only at c0 c1 HGs hgl HG HRu
              obtain ⟨gl, HGL⟩ : ∃ gl, Box (gs.length = gl) := ⟨_, ⟨rfl⟩⟩
              rw [HGL.out] at c1 hgl
              clear hrow hst
              go_upto_region 20 with (fail)
              clear hsa
              have hAl := HK.out.2.lt
              refine name_world (fun W => (Below A w2 W ∧ ITab W A m (L q)) ∧ Blk W wr.heap.size 30 [.int .i64 tx, .slice ga gl gc]) ⟨⟨HK.out.1.alloc (by omega) _, Blk.alloc HK.out.2 _⟩, Blk.new _ _ _⟩ ?_
              generalize wr.heap.size = B at *
              rintro W4 ⟨hd4, hk4⟩
              have HD4 := box hd4; have HK4 := box hk4
              have t1 := hk4.cell (i := 1) rfl
              clear hd4 hk4 c0 c1 HK
              go_wp2_with fail
              go_loopw [79] (fun t79 wx => ∃ p : Nat, p ≤ gl ∧ t79 = .int .i64 (p : Int) ∧ Box ((Below A w2 wx ∧ ITab wx A m (L q)) ∧ Blk wx B 30 [.int .i64 tx, .slice ga gl gc])) (fun t79 _ => gl - (RowKit.intOf t79).toNat)
              case atStart => exact ⟨0, Nat.zero_le _, rfl, ⟨HD4.out, HK4.out⟩⟩
              case round =>
                obtain ⟨p, hp, rfl, HP⟩ := hrel
                clear HD4 HK4 t1
                by_cases hpt : p < gl
                · have hpl : p < gs.length := by rw [HGL.out]; exact hpt
                  obtain ⟨gb, goff, hga, hgb, hgrow⟩ := (HGs.out _ (HBa.out _ HP.out.1.1)).resolve_left (by intro h; rw [h] at hpl; simp at hpl)
                  obtain ⟨e0, e1⟩ := hgrow p hpl
                  have hok := HG.out _ (List.getElem_mem hpl)
                  have hrd := box (fun h => HRu.out h _ (List.getElem_mem hpl))
                  subst hga
                  generalize gs[p] = g at *
                  obtain ⟨gi, gf⟩ := g
                  simp only at e0 e1 hrd
                  obtain ⟨hok0, hok1, _, _⟩ := hok
                  simp only at hok0 hok1
                  obtain ⟨v, hvv⟩ := Int.eq_ofNat_of_zero_le hok0
                  have hvm : v < m := by have := HM.out; omega
                  subst hvv
                  rw [Int.toNat_natCast] at hrd
                  clear hgrow hok0 hok1
                  go_upto_region 23 with (fail)
                  refine name_world (fun W => (Below A w2 W ∧ ITab W A m (L q)) ∧ Blk W B 30 [.int .i64 tx, .slice (some ⟨gb, goff, none⟩) gl gc] ∧ Blk W wr.heap.size 27 [.int .i64 (v : Int), .int .i64 gf]) ⟨⟨HP.out.1.1.alloc (by have := HP.out.1.2.lt; omega) _, Blk.alloc HP.out.1.2 _⟩, HP.out.2.alloc _, Blk.new _ _ _⟩ ?_
                  generalize wr.heap.size = C at *
                  rintro W5 ⟨hd5, hk5, hg5⟩
                  have HD5 := box hd5; have HK5 := box hk5
                  have t0 := hk5.cell (i := 0) rfl
                  have g0 := hg5.cell (i := 0) rfl
                  have g1 := hg5.cell (i := 1) rfl
                  have a0 := hd5.2.cell hvm
                  clear hd5 hk5 hg5 e0 e1 HP
                  go_cut [96] (fun s96 wx => s96 = .bool false ∧ ∃ nq, wx = W5.drewN nq)
                  case first =>
                    by_cases hxx : tx = x
                    · have h9 := hrd.out hxx
                      have e1 : (tx == x) = true := by simpa using hxx
                      have e2 : (L q v == gf) = true := by simpa using h9
                      have e3 : (L q v != gf) = false := by simpa using h9
                      have hvmi : (v : Int) < (m : Int) := by omega
                      have hgv : (0 : Int) ≤ (v : Int) := by omega
                      generalize L q v = y at *
                      clear hxx h9 hrd HRu HRd
                      go_quiet (fail)
                      go_wp2_with fail
                      go_meet
                      exact ⟨rfl, _, rfl⟩
                    · have e1 : (tx == x) = false := by simpa using hxx
                      clear hxx hrd HRu HRd
                      go_quiet (fail)
                      go_wp2_with fail
                      go_meet
                      exact ⟨rfl, _, rfl⟩
                  case rest =>
                  obtain ⟨rfl, nq2, rfl⟩ := hcut
                  have HF : Box ((Below A w2 (W5.drewN nq2) ∧ ITab (W5.drewN nq2) A m (L q)) ∧ Blk (W5.drewN nq2) B 30 [.int .i64 tx, .slice (some ⟨gb, goff, none⟩) gl gc]) := ⟨⟨HD5.out.1.trans ⟨rfl, rfl, rfl, Nat.le_refl _, fun _ _ => rfl⟩, HD5.out.2⟩, HK5.out⟩
                  clear t0 g0 g1 a0 HD5 HK5
                  generalize W5.drewN nq2 = W6 at *
                  go_wp2_with fail
                  go_roundw
                  case rel => exact ⟨p + 1, by omega, by go_num, HF⟩
                  case measure => simp [RowKit.intOf]; omega
                · have HPn := box HP.out.1
                  clear HP
                  go_wp2_with fail
                  go_roundw
                  case rel => exact ⟨k + 1, by omega, by go_num, HPn⟩
                  case measure => simp [RowKit.intOf]; omega
            · have s1 := (HSa.out _ HK.out.1).cell (i := 1) rfl
              have HK0 : Box (Below A w2 wr ∧ ITab wr A m (fun i => if i < 0 then L (q + 1) i else L q i)) := ⟨HK.out.1, HK.out.2.congr (fun i _ => by simp)⟩
              have HWr : Box (∀ j, j < m → (IntsM.idx (s.vrs[j]!).vs x = -1 ∧ L (q + 1) j = L q j) ∨ ∃ i, i < (s.vrs[j]!).vs.length ∧ IntsM.idx (s.vrs[j]!).vs x = (i : Int) ∧ L q j = (if i = 0 then -1 else (s.vrs[j]!).vs[i - 1]!) ∧ L (q + 1) j = x) := ⟨fun j hj => by
                rw [HL.out, ← HX.out]
                rcases HTo.out.writes HOk.out hql (k := j) (by rw [HM.out]; exact hj) with ⟨_, h1, h2⟩ | ⟨i, h1, h2, h3, h4⟩
                · exact Or.inl ⟨h1, h2⟩
                · exact Or.inr ⟨i, h1, h2, h3, h4⟩⟩
              clear HK HRd
              go_wp2_with fail
              go_loopw [102] (fun t102 wx => ∃ j : Nat, j ≤ m ∧ t102 = .int .i64 (j : Int) ∧ Box (Below A w2 wx ∧ ITab wx A m (fun i => if i < j then L (q + 1) i else L q i))) (fun t102 _ => m - (RowKit.intOf t102).toNat)
              case atStart => exact ⟨0, Nat.zero_le _, rfl, HK0⟩
              case round =>
                obtain ⟨j, hj, rfl, HJ⟩ := hrel
                clear HK0 s1
                by_cases hjt : j < m
                · have hjl : j < s.vrs.length := by rw [HM.out]; exact hjt
                  have hst := H.out.below (HBa.out _ HJ.out.1) (Nat.le_refl _)
                  obtain ⟨rb, roff, hra, _, hrow⟩ := hst.vr.resolve_left (by intro h; rw [h] at hjl; simp at hjl)
                  have c0 := hrow j hjl
                  have HIv : Box (∀ wx, Below w.heap.size w wx → IntsAt wx s.vrs[j].va s.vrs[j].vs) := ⟨fun wx hb => (H.out.below hb (Nat.le_refl _)).vs _ (List.getElem_mem hjl)⟩
                  have hsh := HOk.out.short hjl
                  have HWj := box (HWr.out j hjt)
                  have Hv : s.vrs[j]! = s.vrs[j] := getElem!_pos s.vrs j hjl
                  rw [Hv] at hsh HWj
                  rw [hra] at *
                  generalize s.vrs[j] = V at *
                  obtain ⟨va, vc, vs⟩ := V
                  simp only at c0 HIv hsh HWj
                  obtain ⟨vl, HVL⟩ : ∃ vl, Box (vs.length = vl) := ⟨_, ⟨rfl⟩⟩
                  have HIx := box (index_ints vs x va vc wr (HIv.out _ (HBa.out _ HJ.out.1)) (by omega))
                  rw [HVL.out] at c0 hsh HIx HWj
                  clear hrow hst Hv hra
                  obtain ⟨I, HI⟩ : ∃ I, Box (IntsM.idx vs x = I) := ⟨_, ⟨rfl⟩⟩
                  rw [HI.out] at HIx HWj
                  go_wp2_with fail
                  refine HIx.out.mono ?_
                  rintro e w6 ⟨rfl, rfl⟩
                  clear HIx c0
                  rcases HWj.out with ⟨hI, hL⟩ | ⟨i, hil, hI, hL1, hL2⟩
                  · have hI0 : ¬ (0 : Int) ≤ I := by omega
                    have HJn : Box (Below A w2 wr ∧ ITab wr A m (fun i => if i < j + 1 then L (q + 1) i else L q i)) := ⟨HJ.out.1, HJ.out.2.congr (fun i hi => by
                      by_cases e : i = j
                      · subst e; rw [if_pos (by omega), if_neg (by omega), hL]
                      · by_cases e2 : i < j
                        · rw [if_pos (by omega), if_pos e2]
                        · rw [if_neg (by omega), if_neg e2])⟩
                    clear HJ HWj hL hI
                    go_wp2_with fail
                    go_roundw
                    case rel => exact ⟨j + 1, by omega, by go_num, HJn⟩
                    case measure => simp [RowKit.intOf]; omega
                  · subst hI
                    have a0 := HJ.out.2.cell hjt
                    simp only [Nat.lt_irrefl, if_false] at a0
                    have f0 := Blk.frozen HJ.out.2 j
                    have HJn : Box (Below A w2 (wr.setCell ⟨A, j, none⟩ (.int .i64 x)) ∧ ITab (wr.setCell ⟨A, j, none⟩ (.int .i64 x)) A m (fun i => if i < j + 1 then L (q + 1) i else L q i)) := ⟨HJ.out.1.setCell (Nat.le_refl _) _, (HJ.out.2.set j x).congr (fun i hi => by
                      unfold upd
                      by_cases e : i = j
                      · subst e; rw [if_pos (by omega), if_pos rfl, hL2]
                      · rw [if_neg e]
                        show _ = (if i < j then L (q + 1) i else L q i)
                        by_cases e2 : i < j
                        · rw [if_pos (by omega), if_pos e2]
                        · rw [if_neg (by omega), if_neg e2])⟩
                    have HJd : Box (∀ nq, wr.drewN nq = wr.drewN nq) := ⟨fun _ => rfl⟩
                    have HIc : Box (i ≠ 0 → ∃ vb voff, va = some ⟨vb, voff, none⟩ ∧ wr.cell? ⟨vb, voff + (i - 1), none⟩ = some (.int .i64 vs[i - 1]!)) := ⟨fun h0 => by
                      have hil2 : i - 1 < vs.length := by have := HVL.out; omega
                      obtain ⟨vb, voff, hva, _, h2⟩ := (HIv.out _ (HBa.out _ HJ.out.1)).resolve_left (by intro h; rw [h] at hil2; simp at hil2)
                      exact ⟨vb, voff, hva, by rw [h2 (i - 1) hil2, getElem!_pos vs (i - 1) hil2]⟩⟩
                    have hI0 : (0 : Int) ≤ (i : Int) := by omega
                    clear HWj hL2
                    go_wp2_with fail
                    go_cut [136] (fun s136 wx => s136 = .bool false ∧ ∃ nq, wx = wr.drewN nq)
                    case first =>
                      by_cases h0 : i = 0
                      · rw [if_pos h0] at hL1
                        rw [hL1] at a0
                        have e1 : decide (0 < i) = false := decide_eq_false (by omega)
                        have e2 : ((i : Int) == 0) = true := by rw [h0]; rfl
                        clear hL1 HIc h0
                        go_quiet (fail)
                        go_wp2_with fail
                        go_meet
                        exact ⟨rfl, _, rfl⟩
                      · rw [if_neg h0] at hL1
                        rw [hL1] at a0
                        obtain ⟨vb, voff, hva, y0⟩ := HIc.out h0
                        subst hva
                        have e1 : decide (0 < i) = true := decide_eq_true (by omega)
                        have e2 : ((i : Int) == 0) = false := by simpa using h0
                        have hwr : IntKind.i64.wrap ((i : Int) - 1) = ((i - 1 : Nat) : Int) := by
                          rw [IntWalk.i64_in _ (by omega)]; omega
                        have htn : ((i : Int) - 1).toNat = i - 1 := by omega
                        have hge : (0 : Int) ≤ (i : Int) - 1 := by omega
                        have hltn : (i : Int) - 1 < (vl : Int) := by omega
                        have hi1 : i - 1 < vl := by omega
                        have hjti : (j : Int) < (m : Int) := by omega
                        have hj0 : (0 : Int) ≤ (j : Int) := by omega
                        generalize vs[i - 1]! = y at *
                        have e3 : (y != y) = false := by simp
                        clear hL1 HIc h0
                        go_quiet (fail)
                        go_wp2_with fail
                        go_meet
                        exact ⟨rfl, _, rfl⟩
                    case rest =>
                    obtain ⟨rfl, nq2, rfl⟩ := hcut
                    have HF : Box (Below A w2 ((wr.drewN nq2).setCell ⟨A, j, none⟩ (.int .i64 x)) ∧ ITab ((wr.drewN nq2).setCell ⟨A, j, none⟩ (.int .i64 x)) A m (fun i => if i < j + 1 then L (q + 1) i else L q i)) := ⟨HJn.out.1.trans ⟨rfl, rfl, rfl, Nat.le_refl _, fun _ _ => rfl⟩, HJn.out.2⟩
                    have a1 : (wr.drewN nq2).cell? ⟨A, j, none⟩ = some (.int .i64 (L q j)) := a0
                    have f1 : (wr.drewN nq2).frozen? ⟨A, j, none⟩ = false := f0
                    clear a0 f0 HJ HJn HJd hL1 HIc
                    generalize wr.drewN nq2 = W6 at *
                    generalize L q j = y at *
                    go_wp2_with fail
                    go_roundw
                    case rel => exact ⟨j + 1, by omega, by go_num, HF⟩
                    case measure => simp [RowKit.intOf]; omega
                · have HJn : Box (Below A w2 wr ∧ ITab wr A m (L (q + 1))) := ⟨HJ.out.1, HJ.out.2.congr (fun i hi => by rw [if_pos (by omega)])⟩
                  clear HJ
                  go_wp2_with fail
                  go_roundw
                  case rel => exact ⟨q + 1, by omega, by go_num, HJn⟩
                  case measure => simp [RowKit.intOf]; omega
        · have s0 := (HSa.out _ HQ.out.1).cell (i := 0) rfl
          have HBe := box (HBa.out _ HQ.out.1)
          clear HQ
          go_wp2_with fail
          go_ret
          exact ⟨by simp, HBe.out⟩
namespace lawOrderReplays
open Go.ChangeShapes Go.WideShapes Go.ChangeAt Go.RowKit Go.ChangeMaps

set_option maxRecDepth 100000 in
theorem lifted (os : Os) (started : os.Started) (H : Type) (enc : TypeId × Value → H) (F : Stop.Interp) :
    ReturnsInHanded {} Try.checked os 3 .any ((Rows.OpenSpec.upto Rows.orderReplaysSpec).pre6 enc Try.prog Try.f3 [] false) (((Rows.OpenSpec.upto Rows.orderReplaysSpec).at F).post enc Try.prog Try.f3 false true false false) := by
  refine LawKit.law_lifted_upto started (by kernel_rfl) Try.func3 rfl
    (fun ds h => by
      match ds, h with
      | [_], _ => rfl)
    rfl Try.underlying4 (by intro t ht; exact of_decide_eq_true (p := Try.prog.readableRec t = true ∧ t < Try.prog.types.size) (by revert t ht; decide +kernel))
    (OpenSpec.witness (enc := enc) (C := Try.checked) (s := Rows.OpenSpec.upto Rows.orderReplaysSpec) (k := Rows.uptoSmall) rfl false ⟨#[], #[.agg #[.slice none 0 0, .slice none 0 0]], []⟩ 8 (by kernel_rfl) (by kernel_rfl) (by kernel_rfl)
      (x := ([.agg [.nil, .nil]], [], [])) (by kernel_rfl) rfl (by kernel_rfl)) ?_
  intro W base args ds ps hval hA hsz hbk hlt hfz
  have hA' := hA
  rw [Try.params3] at hA hval
  obtain ⟨v0, vs0, d0, ds0, p0, q0, hargs, rfl, rfl, h0, r0⟩ := trodAll_cons hA
  obtain ⟨rfl, rfl, rfl⟩ := trodAll_nil r0
  obtain rfl : args = #[v0] := by cases args; simp_all
  obtain ⟨s, rfl, hat, hsm⟩ := open_story (hval 0 _ _ rfl rfl) h0 (by simp only [Rows.uptoBulkAll] at hbk; omega)
  refine (orderReplays_law s W hat hsm).mono ?_
  rintro e W' ⟨rfl, hb⟩
  exact ⟨rfl, hb⟩

theorem proved : Rows.OrderReplaysUptoSaid :=
  OpenClaim.holds_of_cond 3 Try.f3 rfl rfl rfl rfl rfl rfl rfl ⟨rfl, rfl, rfl, rfl, rfl⟩ rfl rfl rfl rfl rfl (by kernel_rfl) Try.func3 (by kernel_rfl)
    (of_decide_eq_true (by kernel_rfl)) (by unfold Func.isWrapper; first | (rw [if_pos (by decide +kernel)]; kernel_rfl) | (rw [if_neg (by decide +kernel)]; exact ⟨rfl, rfl⟩))
    (fun os started H enc _ F => lifted os started H enc F)
end lawOrderReplays
end Go.Proofs.Ytgkclgmekbgjmaa
