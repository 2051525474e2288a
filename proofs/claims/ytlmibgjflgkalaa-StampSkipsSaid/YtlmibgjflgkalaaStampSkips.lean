/- StampSkips is proved for every input. -/
import Derived.Test.YtlmibgjflgkalaaLawKit
import Derived.Test.YtlmibgjflgkalaaLwEq
import Derived.Test.YtlmibgjflgkalaaStamp
import Derived.Test.YtlmibgjflgkalaaOpsOpen
import Derived.Test.YtlmibgjflgkalaaOp
import Derived.Deep.RegionHeld3
namespace Go.Proofs.Ytlmibgjflgkalaa
open Go.RowKit Go.Lib

/-- What Play leaves, opened. -/
def StampM.Left (skip : Bool) (l : List OpM) (w : World) (e : Ending) (w' : World) : Prop :=
  Below w.heap.size w w' ∧ ∃ (R : List OpM) (D : List Int) (ao bo : Option Addr) (c1 c2 : Nat) (c : Int), c = RunM.check l ∧ e = .returned (.tuple #[.agg #[.slice ao R.length c1, .slice bo D.length c2, .slice none 0 0], .int .i64 c]) ∧ OpsAt w' ao R ∧ IntsAt w' bo D ∧
    (c = 0 → R = (StampM.run skip l).run ∧ D = StampM.deads (StampM.run skip l) 12) ∧ R.length ≤ 200 ∧ D.length ≤ 12
theorem StampM.run_len (skip : Bool) (l : List OpM) : ∀ (st : SSt), (l.foldl (StampM.step skip) st).run.length ≤ st.run.length + l.length := by
  induction l with
  | nil => intro st; simp
  | cons o r ih =>
    intro st
    have h1 := ih (StampM.step skip st o)
    have h2 := StampM.step_len skip st o
    simp only [List.foldl_cons, List.length_cons]
    omega
theorem stamp_left (skip : Bool) (l : List OpM) (ao : Option Addr) (cap : Nat) (w : World) (h : OpsAt w ao l) (hf : RunM.Fits l) :
    Calls Try.prog 20 #[.slice ao l.length cap, .bool skip] w (StampM.Left skip l w) := by
  refine (stamp_any skip l ao cap w h hf).mono ?_
  rintro e w' ⟨hb, ⟨hc, rfl⟩ | ⟨hc, v, v1, rfl, hr, hd⟩⟩
  · exact ⟨hb, [], [], none, none, 0, 0, _, rfl, rfl, Or.inl rfl, Or.inl rfl, fun h => absurd h hc, by simp, by simp⟩
  · obtain ⟨ao, c1, rfl, _, h2, _⟩ := OpsAt.own hr
    obtain ⟨bo, c2, rfl, _, h3, _⟩ := IntsAt.own hd
    refine ⟨hb, _, _, ao, bo, c1, c2, 0, hc.symm, rfl, h2, h3, fun _ => ⟨rfl, rfl⟩, ?_, StampM.deads_len _ _⟩
    have := StampM.run_len skip l StampM.start
    have := (RunM.check_ok hc).1
    show (StampM.run skip l).run.length ≤ 200
    unfold StampM.run
    simp only [StampM.start, List.length_nil] at *
    omega

theorem equal_one (ro : Option Addr) (c1 : Nat) (w : World) (h : OpsAt w ro [⟨1, 2, 3⟩]) :
    Calls Try.prog 21 #[.slice ro 1 c1, .slice (some ⟨w.heap.size, 0, none⟩) 1 1] (w.alloc (.cells #[.int .i64 1, .int .i64 2, .int .i64 3] 42)) fun e w' => e = .returned (.bool true) ∧ ∃ n, w' = (w.alloc (.cells #[.int .i64 1, .int .i64 2, .int .i64 3] 42)).drewN n := by
  have hb := Blk.new w [.int .i64 1, .int .i64 2, .int .i64 3] 42
  refine (equal_ops [⟨1, 2, 3⟩] [⟨1, 2, 3⟩] ro _ c1 1 _ (h.below ((Below.refl _ _).alloc (Nat.le_refl _) _) (Nat.le_refl _)) (Or.inr ⟨_, 0, rfl, hb.lt, ?_⟩) (by decide) (by decide)).mono ?_
  · intro k hk
    match k, hk with
    | 0, _ => exact ⟨hb.cell rfl, hb.cell rfl, hb.cell rfl⟩
  · rintro e w' ⟨rfl, n, rfl⟩
    exact ⟨by simp, n, rfl⟩

theorem skips_kind (W : World) : TellsOp 24 #[] (fun o => o.kind == 4) W := by
  rintro ⟨a, b, c⟩
  show Calls Try.prog 24 #[.agg #[.int .i64 a, .int .i64 b, .int .i64 c]] W _
  go_enter Try.func24, Try.ntmps24
  go_wp2_with fail
  go_ret
  exact ⟨rfl, (Below.refl _ _).alloc (Nat.le_refl _) _⟩
def StampM.seq (k : Nat) : List Int := (List.range k).map (fun n : Nat => (n : Int))
theorem StampM.seq_succ (k : Nat) : StampM.seq (k + 1) = StampM.seq k ++ [(k : Int)] := by simp [StampM.seq, List.range_succ]
theorem StampM.seq_len (k : Nat) : (StampM.seq k).length = k := by simp [StampM.seq]
theorem StampM.turn_seq (l : List OpM) : StampM.inTurn l (StampM.seq 12) = StampM.turn 12 l := by simp [StampM.inTurn, StampM.seq, StampM.turn, List.flatMap_map]

theorem StampM.step_mem (skip : Bool) (st : SSt) (o : OpM) : ∀ p ∈ (StampM.step skip st o).run, p ∈ st.run ∨ p = o ∨ p.kind = 4 := by
  intro p hp
  unfold StampM.step at hp
  repeat' split at hp
  all_goals first
    | exact Or.inl hp
    | (simp at hp
       rcases hp with h | h
       · exact Or.inl h
       · exact Or.inr (by first | exact Or.inl h | (right; rw [h])))
theorem StampM.run_mem (skip : Bool) : ∀ (l : List OpM) (st : SSt), ∀ p ∈ (l.foldl (StampM.step skip) st).run, p ∈ st.run ∨ p ∈ l ∨ p.kind = 4
  | [], _, p, hp => Or.inl hp
  | o :: r, st, p, hp => by
    rcases StampM.run_mem skip r _ p hp with h | h | h
    · rcases StampM.step_mem skip st o p h with h2 | h2 | h2
      · exact Or.inl h2
      · exact Or.inr (Or.inl (by simp [h2]))
      · exact Or.inr (Or.inr h2)
    · exact Or.inr (Or.inl (by simp [h]))
    · exact Or.inr (Or.inr h)

def StampM.two : List OpM := [⟨1, 2, 3⟩, ⟨0, 2, 3⟩]
theorem stamp_two (b cap : Nat) (w : World) (h : Blk w b 42 [.int .i64 1, .int .i64 2, .int .i64 3, .int .i64 0, .int .i64 2, .int .i64 3]) :
    Calls Try.prog 20 #[.slice (some ⟨b, 0, none⟩) 2 cap, .bool true] w fun e w' => Below w.heap.size w w' ∧ ∃ ao bo c1 c2, e = .returned (.tuple #[.agg #[.slice ao 1 c1, .slice bo 0 c2, .slice none 0 0], .int .i64 0]) ∧ OpsAt w' ao [⟨1, 2, 3⟩] := by
  refine (stamp_left true StampM.two (some ⟨b, 0, none⟩) cap w (Or.inr ⟨b, 0, rfl, h.lt, ?_⟩) ⟨by decide, by decide⟩).mono ?_
  · intro k hk
    match k, hk with
    | 0, _ => exact ⟨h.cell rfl, h.cell rfl, h.cell rfl⟩
    | 1, _ => exact ⟨h.cell rfl, h.cell rfl, h.cell rfl⟩
  · rintro e w' ⟨hb, R, D, ao, bo, c1, c2, c, hc, rfl, h1, h2, h3, _⟩
    have : c = 0 := hc.trans (by decide)
    subst this
    obtain ⟨rfl, rfl⟩ := h3 rfl
    exact ⟨hb, ao, bo, c1, c2, rfl, h1⟩

set_option maxRecDepth 20000 in
set_option maxHeartbeats 4000000 in
theorem stampSkips_calls (l : List OpM) (ao : Option Addr) (cap : Nat) (w : World) (h : OpsAt w ao l) (hf : RunM.Fits l) :
    Calls Try.prog 5 #[.slice ao l.length cap] w fun e w' => e = .returned (.bool true) ∧ Below w.heap.size w w' := by
  obtain ⟨i0, hi0, hz0, hz1, hz2⟩ := info_parts Try.infoI
  have H := box h; have Hf := box hf
  clear h hf
  go_enter Try.func5, Try.ntmps5
  go_wp2_with fail
  refine (op_any _ _ _ _).mono ?_
  rintro e w1 ⟨rfl, hb1⟩
  have HB1 := box hb1; clear hb1
  go_wp2_with fail
  refine (op_any _ _ _ _).mono ?_
  rintro e w2 ⟨rfl, hb2⟩
  have HB2 := box (below_tr HB1.out hb2); clear hb2
  go_wp2_with fail
  refine (stamp_two w2.heap.size 2 _ (Blk.new w2 [.int .i64 1, .int .i64 2, .int .i64 3, .int .i64 0, .int .i64 2, .int .i64 3] _)).mono ?_
  rintro e w3 ⟨hb3, ro, bo, c1, c2, rfl, hat⟩
  have HB3 := box (below_tr (HB2.out.alloc HB2.out.size _) hb3)
  have HA := box hat
  clear hb3 hat
  go_wp2_with fail
  go_upto_region 2 with (fail)
  have hs3 := HB3.out.size
  refine name_world (fun W => Below w.heap.size w W ∧ OpsAt W ro [⟨1, 2, 3⟩] ∧ Blk W w3.heap.size 46 [.slice ro 1 c1, .slice bo 0 c2, .slice none 0 0]) ⟨HB3.out.alloc hs3 _, HA.out.below ((Below.refl _ _).alloc (Nat.le_refl _) _) (Nat.le_refl _), Blk.new _ _ _⟩ ?_
  rintro W ⟨hbW, haW, hkW⟩
  have hc0 := hkW.cell (i := 0) rfl
  have hc1 := hkW.cell (i := 1) rfl
  have HW := box hbW; have HA4 := box haW; have HK := box hkW
  clear hbW haW hkW
  generalize w3.heap.size = B at *
  go_cut [35] (fun s wx => s = .bool false ∧ Below w.heap.size w wx)
  case first =>
    have HlB := box HK.out.lt
    go_region_held3 (fun w' => w'.cell? ⟨B, 0, none⟩ = some (.slice ro 1 c1) ∧ w'.cell? ⟨B, 1, none⟩ = some (.slice bo 0 c2)) (first | exact ⟨hc0, hc1⟩ | assumption | exact hc0a _ | exact hc0b _ _) (first
      | (go_at_call 19; refine (op_any _ _ _ _).mono ?_; rintro e w4 ⟨rfl, hb4⟩; have hc04 : w4.cell? ⟨B, 0, none⟩ = some (.slice ro 1 c1) ∧ w4.cell? ⟨B, 1, none⟩ = some (.slice bo 0 c2) := ⟨(hb4.cell (p := ⟨B, 0, none⟩) HlB.out).trans hc0, (hb4.cell (p := ⟨B, 1, none⟩) HlB.out).trans hc1⟩; have hc0a : ∀ o, (w4.alloc o).cell? ⟨B, 0, none⟩ = some (.slice ro 1 c1) ∧ (w4.alloc o).cell? ⟨B, 1, none⟩ = some (.slice bo 0 c2) := fun o => ⟨(HK.out.after (below_tr (Below.refl _ W).drew hb4)).alloc o |>.cell rfl, (HK.out.after (below_tr (Below.refl _ W).drew hb4)).alloc o |>.cell rfl⟩; have hc0b : ∀ o n, ((w4.alloc o).drewN n).cell? ⟨B, 0, none⟩ = some (.slice ro 1 c1) ∧ ((w4.alloc o).drewN n).cell? ⟨B, 1, none⟩ = some (.slice bo 0 c2) := fun o n => hc0a o; have HB4 := box (below_tr HW.out.drew hb4); have HA5 := box (HA4.out.below (below_tr (Below.refl _ W).drew hb4) (Nat.le_refl _)); clear hb4)
      | (go_at_call 21; refine (equal_one ro c1 _ HA5.out).mono ?_; rintro e w6 ⟨rfl, n6, rfl⟩))
    go_step
    go_step
    go_meet
    exact ⟨rfl, below_tr (HB4.out.alloc HB4.out.size _) ⟨rfl, rfl, rfl, Nat.le_refl _, fun _ _ => rfl⟩⟩
  case rest =>
  obtain ⟨rfl, hb⟩ := hcut
  have HC := box hb
  clear hb hc0 hc1 HW HA4 HK HB3 HA hs3
  go_wp2_with fail
  refine (stamp_left true l ao cap _ (H.out.below HC.out (Nat.le_refl _)) Hf.out).mono ?_
  rintro e w5 ⟨hb5, R, D, ro, bo, c1, c2, c, hc, rfl, hR, hD, hRD, hlR, hlD⟩
  have HB5 := box (below_tr HC.out hb5)
  have HR := box hR; have HD := box hD; have HRD := box hRD; have Hc := box hc
  have hs5 := HB5.out.size
  clear hb5 hR hD hRD hc
  go_wp2_with fail
  refine (stamp_left false l ao cap _ (H.out.below (HB5.out.alloc hs5 _) (Nat.le_refl _)) Hf.out).mono ?_
  rintro e w6 ⟨hb6, R2, D2, ro2, bo2, c12, c22, c', hc', rfl, hR2, hD2, hRD2, hlR2, hlD2⟩
  obtain rfl : c' = c := hc'.trans Hc.out.symm
  have HB6 := box (below_tr (HB5.out.alloc hs5 _) hb6)
  have hk5 := Blk.new w5 [.slice ro R.length c1, .slice bo D.length c2, .slice none 0 0] 46
  have HK5 := box (hk5.after hb6)
  have HR6 := box (HR.out.below (below_tr ((Below.refl _ _).alloc (Nat.le_refl _) _) hb6) (Nat.le_refl _))
  have HD6 := box (HD.out.below (below_tr ((Below.refl _ _).alloc (Nat.le_refl _) _) hb6) (Nat.le_refl _))
  have HD2 := box hD2; have HRD2 := box hRD2
  have hs6 := HB6.out.size
  clear hb6 hR2 hD2 hRD2 hc' hk5 HR HD HB5
  by_cases h0 : c' = 0
  case neg =>
    have g1 : (c' == 0) = false := by simp [h0]
    have g2 : (c' != 0) = true := by simp [h0]
    have H0 := box h0; clear h0
    go_wp2_with fail
    go_ret
    exact ⟨by simp, HB6.out.alloc hs6 _⟩
  subst h0
  have hp0 : D ≠ [] → 0 < D2.length := by
    intro hD
    have h1 := HRD.out rfl
    have h2 := HRD2.out rfl
    by_cases h : D2 = []
    · exfalso
      apply hD
      rw [h1.2]
      rw [h2.2] at h
      have := StampM.dead_same Hc.out.symm (by simpa [StampM.deads, StampM.dead] using h)
      simpa [StampM.deads, StampM.dead] using this
    · exact List.length_pos_iff.2 h
  have HP := box hp0
  have HX := box (⟨HRD.out rfl, Hc.out.symm⟩ : (R = (StampM.run true l).run ∧ D = StampM.deads (StampM.run true l) 12) ∧ RunM.check l = 0)
  clear hp0 HRD HRD2 Hc
  have hk5 := HK5.out.lt
  go_upto_region 6 with (fail)
  refine name_world (fun W => Below w.heap.size w W ∧ OpsAt W ro R ∧ IntsAt W bo D ∧ IntsAt W bo2 D2 ∧ Blk W w5.heap.size 46 [.slice ro R.length c1, .slice bo D.length c2, .slice none 0 0] ∧ Blk W w6.heap.size 46 [.slice ro2 R2.length c12, .slice bo2 D2.length c22, .slice none 0 0]) ⟨HB6.out.alloc hs6 _, HR6.out.below ((Below.refl _ _).alloc (Nat.le_refl _) _) (Nat.le_refl _), HD6.out.below ((Below.refl _ _).alloc (Nat.le_refl _) _) (Nat.le_refl _), HD2.out.below ((Below.refl _ _).alloc (Nat.le_refl _) _) (Nat.le_refl _), HK5.out.alloc _, Blk.new _ _ _⟩ ?_
  rintro W ⟨hbW, hRW, hDW, hD2W, hPW, hQW⟩
  have HW := box hbW; have HR := box hRW; have HD := box hDW; have HD2' := box hD2W; have HPW := box hPW; have HQW := box hQW
  clear hbW hRW hDW hD2W HB6 HK5 HR6 HD6 HD2 hs6 hs5 HC hk5
  generalize w5.heap.size = B5 at *
  generalize w6.heap.size = B6 at *
  have p1 := hPW.cell (i := 1) rfl
  have q1 := hQW.cell (i := 1) rfl
  clear hPW hQW
  go_wp2_with fail
  go_loopw [58] (fun t58 wr => wr = W ∧ ∃ k : Nat, k ≤ D.length ∧ t58 = .int .i64 (k : Int)) (fun t58 _ => D.length - (intOf t58).toNat)
  case atStart => exact ⟨rfl, 0, Nat.zero_le _, rfl⟩
  case round =>
    obtain ⟨rfl, k, hk, rfl⟩ := hrel
    by_cases hlt : k < D.length
    · obtain ⟨b, off, rfl, hb, hrow⟩ := (HD.out.resolve_left (by intro h; rw [h] at hlt; simp at hlt))
      have hc := hrow k hlt
      have hpos := HP.out (by intro h; rw [h] at hlt; simp at hlt)
      have qp : decide (0 < D2.length) = true := decide_eq_true hpos
      generalize D[k] = x at *
      clear hrow
      go_wp2_with fail
      refine (contains_ints D2 x bo2 c22 _ HD2'.out (by omega)).mono ?_
      rintro e w' ⟨rfl, rfl⟩
      cases decide (x ∈ D2) with
      | true =>
        go_wp2_with fail
        go_roundw
        case rel => exact ⟨by simp, k + 1, hlt, by go_num⟩
        case measure => simp [intOf]; omega
      | false =>
        go_wp2_with fail
        go_ret
        exact ⟨by simp, HW.out⟩
    · clear hk
      by_cases hdl : 0 < D.length
      · have qd : decide (0 < D.length) = true := decide_eq_true hdl
        go_wp2_with fail
        go_ret
        exact ⟨by simp, HW.out⟩
      have qd : decide (0 < D.length) = false := decide_eq_false hdl
      have hD0 : D = [] := List.eq_nil_of_length_eq_zero (by omega)
      have hlen := Hf.out.1
      have p0 := HPW.out.cell (i := 0) rfl
      go_wp2_with fail
      refine (containsFunc_ops l ao cap 24 #[] (fun o => o.kind == 4) _ (H.out.below HW.out (Nat.le_refl _)) (by omega) (fun V _ => skips_kind V) (enters_fn Try.func24 (by kernel_rfl) rfl)).mono ?_
      rintro e w7 ⟨rfl, hb7⟩
      have HB7 := box (below_tr HW.out hb7)
      have HP7 := box (HPW.out.after hb7)
      have HR7 := box (HR.out.below hb7 (Nat.le_refl _))
      have p07 := HP7.out.cell (i := 0) rfl
      have hl5 := HP7.out.lt
      have hlR2 := hlR
      clear hb7 p0 p1 q1
      obtain ⟨an, HAN⟩ : ∃ an, Box (l.any (fun o => o.kind == 4) = an) := ⟨_, ⟨rfl⟩⟩
      rw [HAN.out]
      cases an with
      | true =>
        go_wp2_with fail
        go_ret
        exact ⟨by simp, HB7.out⟩
      | false =>
      have hs7 := HB7.out.size
      go_wp2_with fail
      go_loopw [11, 80] (fun t11 t80 w8 => ∃ k : Nat, k ≤ 12 ∧ t80 = .int .i64 (k : Int) ∧ w8.ownsRow w7.heap.size 3 1 t11 (StampM.seq k).length (intVals (StampM.seq k)) ∧ Box (Below w7.heap.size w7 w8)) (fun _ t80 _ => 12 - (intOf t80).toNat)
      case atStart => exact ⟨0, by omega, rfl, World.ownsRow_nil _ _ _ _, ⟨Below.refl _ _⟩⟩
      case round =>
        obtain ⟨k, hk, rfl, hown, Hb8⟩ := hrel
        have hbs := Hb8.out.size
        by_cases hlt12 : k < 12
        · have Hown := box hown
          have hown2 := hown.alloc (.cells #[.int .i64 (k : Int)] 3)
          have hseq := StampM.seq_len k
          have HT := box (StampM.seq_succ k)
          generalize StampM.seq k = ms at *
          clear hown
          go_wp2_with (at_builtin; go_must (refine wpList_append_own _ rfl _ _ 31 rfl w7.heap.size 3 i0 _ 1 8 Try.underlying31 hi0 hz0 hz1 hz2 rfl (by decide) _ _ _ rfl hown2 ⟨wr.heap.size, 0, none⟩ 1 1 [.int .i64 (k : Int)] rfl rfl (cells_new wr [.int .i64 (k : Int)] 3) (by simp [Value.oneCell']) (by unfold maxLen; omega) (by omega) (by simp; omega) ?_))
          intro v' w9 hown3 hgrow _
          have hB9 : Below w7.heap.size w7 w9 := (Hb8.out.alloc hbs _).grown hgrow (by simp; omega) (fun b hb => (Hown.out.lt b hb).1)
          have HB9 := box hB9; have HO := box hown3
          clear hown3 hgrow hown2 hB9
          go_wp2_with fail
          go_roundw
          case rel =>
            refine ⟨k + 1, hlt12, by go_num, ?_, HB9⟩
            rw [HT.out, intVals_append, List.length_append, hseq]
            exact HO.out
          case measure => simp [intOf]; omega
        · obtain rfl : k = 12 := by omega
          obtain ⟨bo3, c3, rfl, _, hat3, _, _⟩ := IntsAt.own hown
          have HI := box hat3
          have HP9 := box (HP7.out.after Hb8.out)
          have p09 := HP9.out.cell (i := 0) rfl
          have hok := (RunM.check_ok HX.out.2).2.2
          have hl200 := (RunM.check_ok HX.out.2).1
          have HR9 := box (HR7.out.below Hb8.out (Nat.le_refl _))
          have HB9 := box (below_tr HB7.out Hb8.out)
          have hvl : ∀ o ∈ l, o.kind = 2 → 0 ≤ o.item ∧ o.item < 20 := fun o ho _ => by
            obtain ⟨_, _, h3, h4, _⟩ := RunM.bad_zero (hok o ho)
            exact ⟨h3, h4⟩
          have hvR : ∀ o ∈ R, o.kind = 2 → 0 ≤ o.item ∧ o.item < 20 := fun o ho h2 => by
            rw [HX.out.1.1] at ho
            rcases StampM.run_mem true l _ o ho with h | h | h
            · simp [StampM.start] at h
            · exact hvl o h h2
            · omega
          have hvT : ∀ o ∈ StampM.inTurn l (StampM.seq 12), o.kind = 2 → 0 ≤ o.item ∧ o.item < 20 := fun o ho h2 => by
            simp only [StampM.inTurn, List.mem_flatMap, List.mem_filter] at ho
            obtain ⟨_, _, ho, _⟩ := ho
            exact hvl o ho h2
          have hlT : (StampM.inTurn l (StampM.seq 12)).length ≤ 5000000000 := by
            have h1 := StampM.inTurn_len l (StampM.seq 12)
            have h2 : (StampM.seq 12).length * l.length ≤ 12 * 200 := Nat.mul_le_mul (by rw [StampM.seq_len]; omega) hl200
            omega
          have HE : Box (lwVals (StampM.inTurn l (StampM.seq 12)) = lwVals R) := ⟨by
            unfold lwVals
            apply Tab_congr
            intro i _
            rw [StampM.turn_seq, HX.out.1.1, StampM.law HX.out.2]
            · intro o ho hk4
              have := List.any_eq_false.1 HAN.out o ho
              simp [hk4] at this
            · have h := HX.out.1.2
              rw [hD0] at h
              simpa [StampM.deads, StampM.dead] using h.symm⟩
          have HvT := box hvT; have HvR := box hvR
          have Hlen : Box ((StampM.seq 12).length = 12) := ⟨rfl⟩
          clear hown hat3 hok hvl hvR hvT p07
          go_wp2_with fail
          refine (lastWriter_any R ro c1 _ HR9.out (by omega) HvR.out).mono ?_
          rintro e w10 ⟨rfl, hb10⟩
          have HB10 := box (below_tr HB9.out hb10)
          have HI10 := box (HI.out.below hb10 (Nat.le_refl _))
          clear hb10
          generalize HLW : lwVals R = LW at *
          have HLW2 := box HLW
          clear HLW
          go_wp2_with fail
          refine (inTurn_any l (StampM.seq 12) ao bo3 cap c3 _ (H.out.below HB10.out (Nat.le_refl _)) HI10.out hl200 (by rw [StampM.seq_len]; omega)).mono ?_
          rintro e w11 ⟨v, rfl, hown11, hb11⟩
          have HB11 := box (below_tr HB10.out hb11)
          obtain ⟨ao4, c4, rfl, _, hat4, _, _⟩ := OpsAt.own hown11
          have HA4 := box hat4
          clear hb11 hown11 hat4
          go_wp2_with fail
          refine (lastWriter_any (StampM.inTurn l (StampM.seq 12)) ao4 c4 _ HA4.out hlT HvT.out).mono ?_
          rintro e w12 ⟨rfl, hb12⟩
          have HB12 := box (below_tr HB11.out hb12)
          clear hb12
          rw [HE.out]
          have heq : ∀ w, (Op.equalIn 10000 53 (.agg LW.toArray) (.agg LW.toArray)).run Try.prog w = .ok true w := fun w => by
            rw [← HLW2.out]
            exact equal_same (fun it => StampM.lw it R) w
          go_wp2_with fail
          go_ret
          exact ⟨by simp, HB12.out⟩
namespace lawStampSkips
open Go.ChangeShapes Go.WideShapes Go.ChangeAt Go.RowKit Go.ChangeMaps

set_option maxRecDepth 100000 in
theorem lifted (os : Os) (started : os.Started) (H : Type) (enc : TypeId × Value → H) :
    ReturnsInHanded {} Try.checked os 5 .any (Rows.stampSkipsSpec.pre6 enc Try.prog Try.f5 [] false) (Rows.stampSkipsSpec.post enc Try.prog Try.f5 false true false false) := by
  refine LawKit.law_lifted started (by kernel_rfl) Try.func5 rfl
    (fun ds h => by
      match ds, h with
      | [_], _ => rfl)
    rfl Try.underlying4 (by intro t ht; exact of_decide_eq_true (p := Try.prog.readableRec t = true ∧ t < Try.prog.types.size) (by revert t ht; decide +kernel))
    (ChangeSpec.witness6 (enc := enc) (C := Try.checked) false ⟨#[], #[.slice none 0 0], []⟩ 8 (by kernel_rfl) (by kernel_rfl) (by kernel_rfl) (by kernel_rfl)) ?_
  intro W base args ds ps hval hA hsz hlt hfz
  have hA' := hA
  rw [Try.params5] at hA hval
  obtain ⟨v0, vs0, d0, ds0, p0, q0, hargs, rfl, rfl, h0, r0⟩ := trodAll_cons hA
  obtain ⟨rfl, rfl, rfl⟩ := trodAll_nil r0
  obtain rfl : args = #[v0] := by cases args; simp_all
  obtain ⟨ao, cap, ls, rfl, hnil, hat, hfits, _, _⟩ := open_ops (hval 0 _ _ rfl rfl) h0 (Open.weights_bound hsz (j := 0) (by rw [Try.params5]; rfl) rfl)
  refine (stampSkips_calls ls ao cap W hat hfits).mono ?_
  rintro e W' ⟨rfl, hb⟩
  exact ⟨rfl, hb⟩

theorem proved : Rows.StampSkipsSaid :=
  OpenClaim.holds_of_wide 5 Try.f5 rfl rfl rfl rfl rfl rfl rfl ⟨rfl, rfl, rfl, rfl, rfl⟩ rfl rfl rfl rfl rfl (by kernel_rfl) Try.func5 (by kernel_rfl)
    (of_decide_eq_true (by kernel_rfl)) (by unfold Func.isWrapper; first | (rw [if_pos (by decide +kernel)]; kernel_rfl) | (rw [if_neg (by decide +kernel)]; exact ⟨rfl, rfl⟩))
    (fun os started H enc _ => lifted os started H enc)
end lawStampSkips
end Go.Proofs.Ytlmibgjflgkalaa
