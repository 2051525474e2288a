/- TwoOwn: walked. -/
import Derived.Test.YtnnkejolfhhmlaaLawKit
import Derived.Test.YtnnkejolfhhmlaaTwoO
import Derived.Test.YtnnkejolfhhmlaaOp
import Derived.Test.YtnnkejolfhhmlaaSlOps
import Derived.Test.YtnnkejolfhhmlaaOwn
import Derived.Test.YtnnkejolfhhmlaaIntEq
import Derived.Test.YtnnkejolfhhmlaaOpsOpen
namespace Go.Proofs.Ytnnkejolfhhmlaa
section
open Go.RowKit Go.Lib

open TwoM in
theorem two_exD (b cap : Nat) (w : World) (h : Blk w b 30 [.int .i64 0, .int .i64 2, .int .i64 1, .int .i64 1, .int .i64 2, .int .i64 2, .int .i64 0, .int .i64 2, .int .i64 2, .int .i64 1, .int .i64 2, .int .i64 1]) :
    Calls Try.prog 5 #[.slice (some ⟨b, 0, none⟩) 4 cap] w fun e w' => Below w.heap.size w w' ∧ ∃ ao an bo co c1 c2 c3, e = .returned (.tuple #[.agg #[.slice ao an c1, .slice bo 1 c2, .slice co 0 c3], .int .i64 0]) ∧ IntsAt w' bo [1] := by
  refine (play_o exD (some ⟨b, 0, none⟩) cap w (Or.inr ⟨b, 0, rfl, h.lt, ?_⟩) ⟨by decide, by decide⟩).mono ?_
  · intro k hk
    match k, hk with
    | 0, _ => exact ⟨h.cell rfl, h.cell rfl, h.cell rfl⟩
    | 1, _ => exact ⟨h.cell rfl, h.cell rfl, h.cell rfl⟩
    | 2, _ => exact ⟨h.cell rfl, h.cell rfl, h.cell rfl⟩
    | 3, _ => exact ⟨h.cell rfl, h.cell rfl, h.cell rfl⟩
  · rintro e w' ⟨hb, ⟨hc, _⟩ | ⟨_, s, ao, bo, co, c1, c2, c3, ht, _, _, rfl, h1, _, h2, h3⟩⟩
    · exact absurd (by decide) hc
    · obtain ⟨e1, e2⟩ := exD_is ht
      rw [e1] at h2 ⊢
      rw [e2]
      exact ⟨hb, ao, _, bo, co, c1, c2, c3, rfl, h2⟩
/-- What TwoOwn looks at, of one transaction. -/
structure TwoM.OwnF (s : TwoM.S) (l : List OpM) (k : Nat) : Prop where
  died : s.dead k = true → (TwoM.isLate s k = false ∧ ∃ n, (RunM.of s.out k).length = n + 1 ∧ (∀ h : n < (RunM.of s.out k).length, (RunM.of s.out k)[n].kind = 4) ∧ n ≤ (RunM.of l k).length ∧ (RunM.of s.out k).take n = (RunM.of l k).take n)
  alive : s.dead k = false → (RunM.of s.out k).length ≤ (RunM.of l k).length ∧ RunM.of s.out k = (RunM.of l k).take (RunM.of s.out k).length ∧ (TwoM.isLate s k = true ↔ (RunM.of s.out k).length ≠ (RunM.of l k).length)
theorem TwoM.ownF {s : TwoM.S} {l : List OpM} (H : TwoM.Inv s [] (fun _ => []) (RunM.of l)) (k : Nat) : TwoM.OwnF s l k := by
  refine ⟨fun hd => ?_, fun hd => ?_⟩
  · obtain ⟨h1, pre, r, h2, h3, h4⟩ := H.died k hd
    refine ⟨by unfold TwoM.isLate; rw [h1]; rfl, pre.length, by rw [h2]; simp, fun h => ?_, by rw [h3]; simp, by rw [h2, h3]; simp⟩
    rw [List.getElem_of_eq h2]
    simp
  · have h1 := H.alive k hd
    rw [List.append_nil] at h1
    rw [← h1, List.length_append]
    refine ⟨by omega, by simp, ?_⟩
    unfold TwoM.isLate
    rw [decide_eq_true_eq]
    omega
open TwoM in
set_option maxRecDepth 100000 in
set_option maxHeartbeats 16000000 in
theorem twoOwn_calls (l : List OpM) (ao : Option Addr) (cap : Nat) (w : World) (h : OpsAt w ao l) (hf : RunM.Fits l) :
    Calls Try.prog 3 #[.slice ao l.length cap] w fun e w' => e = .returned (.bool true) ∧ Below w.heap.size w w' := by
  have H := box h; have Hf := box hf
  have hfl := hf.1
  clear h hf
  obtain ⟨N, HN⟩ : ∃ x, Box (l.length = x) := ⟨_, ⟨rfl⟩⟩
  rw [HN.out] at hfl ⊢
  go_enter Try.func3, Try.ntmps3
  go_wp2_with fail
  refine (op_any _ _ _ _).mono ?_
  rintro e w1 ⟨rfl, hb1⟩
  have HB1 := box hb1; clear hb1
  go_wp2_with fail
  refine (op_any _ _ _ _).mono ?_
  rintro e w2 ⟨rfl, hb2⟩
  have HB2 := box (below_tr HB1.out hb2); clear hb2
  go_wp2_with fail
  refine (op_any _ _ _ _).mono ?_
  rintro e w3 ⟨rfl, hb3⟩
  have HB3 := box (below_tr HB2.out hb3); clear hb3
  go_wp2_with fail
  refine (op_any _ _ _ _).mono ?_
  rintro e w4 ⟨rfl, hb4⟩
  have HB4 := box (below_tr HB3.out hb4); clear hb4
  go_wp2_with fail
  refine (two_exD w4.heap.size 4 _ (Blk.new w4 [.int .i64 0, .int .i64 2, .int .i64 1, .int .i64 1, .int .i64 2, .int .i64 2, .int .i64 0, .int .i64 2, .int .i64 2, .int .i64 1, .int .i64 2, .int .i64 1] _)).mono ?_
  rintro e w5 ⟨hb5, ro, rn, bo, co, c1, c2, c3, rfl, hat⟩
  have HB5 := box (below_tr (HB4.out.alloc HB4.out.size _) hb5)
  have HA := box hat
  clear hb5 hat
  have hs5 := HB5.out.size
  go_upto_region 2 with (fail)
  refine name_world (fun W => Below w.heap.size w W ∧ IntsAt W bo [1] ∧ Blk W w5.heap.size 25 [.slice ro rn c1, .slice bo 1 c2, .slice co 0 c3]) ⟨HB5.out.alloc hs5 _, HA.out.below ((Below.refl _ _).alloc (Nat.le_refl _) _) (Nat.le_refl _), Blk.new _ _ _⟩ ?_
  rintro W ⟨hbW, haW, hkW⟩
  have cc1 := hkW.cell (i := 1) rfl
  have HW := box hbW; have HA4 := box haW; have HK := box hkW
  clear hbW haW hkW HB5 HA hs5
  generalize w5.heap.size = B at *
  go_wp2_with fail
  refine (equalInts_same [1] bo _ c2 1 _ (HA4.out.below ((Below.refl _ _).alloc (Nat.le_refl _) _) (Nat.le_refl _)) (Or.inr ⟨W.heap.size, 0, rfl, by simp, fun k hk => by
    rw [Nat.zero_add]
    exact (Blk.new W (intVals [1]) 3).cell (intVals_get hk)⟩) (by decide)).mono ?_
  rintro e w6 ⟨rfl, n6, rfl⟩
  have HB6 : Box (Below w.heap.size w ((W.alloc (.cells #[.int .i64 1] 3)).drewN n6)) := ⟨below_tr (HW.out.alloc HW.out.size _) ⟨rfl, rfl, rfl, Nat.le_refl _, fun _ _ => rfl⟩⟩
  have cc2 : ((W.alloc (.cells #[.int .i64 1] 3)).drewN n6).cell? ⟨B, 2, none⟩ = some (.slice co 0 c3) := ((HK.out.alloc _).drewN n6).cell (i := 2) rfl
  generalize (W.alloc (.cells #[.int .i64 1] 3)).drewN n6 = W6 at *
  clear cc1 HW HA4 HK
  have hp := play_o l ao cap W6 (H.out.below HB6.out (Nat.le_refl _)) Hf.out
  rw [HN.out] at hp
  have HP := box hp
  clear hp
  go_wp2_with fail
  refine HP.out.mono ?_
  clear HP cc2
  rintro e w7 ⟨hb7, ⟨hc, rfl⟩ | ⟨hc, s, ao7, bo7, co7, d1, d2, d3, ht, hI, hA, rfl, hO, hOn, hD, hL⟩⟩
  · have HB7 := box (below_tr HB6.out hb7)
    have hs7 := HB7.out.size
    have hck := runCheck_any l ao cap (w7.alloc (.cells #[.slice none 0 0, .slice none 0 0, .slice none 0 0] 25)) (H.out.below (HB7.out.alloc hs7 _) (Nat.le_refl _)) Hf.out
    rw [HN.out] at hck
    have HCk := box hck
    generalize RunM.check l = c at *
    have g1 : (c != 0) = true := by simpa using hc
    clear hb7 hc hck
    go_wp2_with fail
    refine HCk.out.mono ?_
    rintro e w8 ⟨rfl, hb8⟩
    have HB8 := box (below_tr (HB7.out.alloc hs7 _) hb8)
    clear hb8 HCk
    go_wp2_with fail
    go_ret
    exact ⟨by simp, HB8.out⟩
  have HB7 := box (below_tr HB6.out hb7)
  have hs7 := HB7.out.size
  have HOf := box (fun k => TwoM.ownF hI k)
  have HR200 : Box (s.out.length ≤ 200 ∧ l.length ≤ 200) := ⟨by
    obtain ⟨q1, q2, _⟩ := (RunM.check_iff l).1 hc
    have hT : total (RunM.of l) ≤ 200 := by
      unfold total
      rw [of_sum l (fun o ho => ⟨o.tx.toNat, by have := RunM.bad_zero (q2 o ho); omega⟩)]
      exact q1
    exact ⟨(small hI hT).1, q1⟩⟩
  have HO := box hO; have HD := box hD; have HL := box hL
  have HDl := box (pick_len s.dead 12); have HLl := box (pick_len (isLate s) 12)
  clear hb7 hc ht hI hA hO hOn hD hL
  obtain ⟨OL, HOL⟩ : ∃ x, Box (s.out.length = x) := ⟨_, ⟨rfl⟩⟩
  obtain ⟨DL, HDL⟩ : ∃ x, Box ((pick s.dead 12).length = x) := ⟨_, ⟨rfl⟩⟩
  obtain ⟨LL, HLL⟩ : ∃ x, Box ((pick (isLate s) 12).length = x) := ⟨_, ⟨rfl⟩⟩
  rw [HOL.out, HDL.out, HLL.out]
  go_upto_region 5 with (fail)
  refine name_world (fun W => Below w.heap.size w W ∧ Below w7.heap.size w7 W ∧ Blk W w7.heap.size 25 [.slice ao7 OL d1, .slice bo7 DL d2, .slice co7 LL d3]) ⟨HB7.out.alloc hs7 _, (Below.refl _ _).alloc (Nat.le_refl _) _, Blk.new _ _ _⟩ ?_
  rintro W8 ⟨hbW, hbW7, hkW⟩
  have HW8 := box hbW; have HK8 := box hkW
  have HO8 := box (HO.out.below hbW7 (Nat.le_refl _)); have HD8 := box (HD.out.below hbW7 (Nat.le_refl _)); have HL8 := box (HL.out.below hbW7 (Nat.le_refl _))
  clear hbW hbW7 hkW HB7 hs7 HO HD HL
  generalize w7.heap.size = B7 at *
  go_wp2_with fail
  go_loopw [48] (fun t48 wr => ∃ k : Nat, k ≤ 12 ∧ t48 = .int .i64 (k : Int) ∧ Box (Below W8.heap.size W8 wr)) (fun t48 _ => 12 - (RowKit.intOf t48).toNat)
  case atStart => exact ⟨0, by omega, rfl, ⟨Below.refl _ _⟩⟩
  case round =>
    obtain ⟨k, hk, rfl, HR⟩ := hrel
    by_cases hlt : k < 12
    · have HK9 := box (HK8.out.after HR.out)
      have p0 := HK9.out.cell (i := 0) rfl
      have hPl := HK9.out.lt
      have ho := own_any s.out (k : Int) ao7 d1 wr (HO8.out.below HR.out (Nat.le_refl _)) (by have := HR200.out.1; omega)
      rw [HOL.out] at ho
      have HOw := box ho
      clear ho
      go_wp2_with fail
      refine HOw.out.mono ?_
      clear HOw
      rintro e w9 ⟨v9, rfl, hown9, hb9⟩
      obtain ⟨a9, c9, rfl, _, hat9, _, hc9⟩ := OpsAt.own hown9
      have hf9 : (s.out.filter fun o => o.tx == (k : Int)) = RunM.of s.out k := rfl
      have hf8 : (l.filter fun o => o.tx == (k : Int)) = RunM.of l k := rfl
      rw [hf9] at hat9 ⊢
      have HA9 := box hat9
      have HB9 := box (HR.out.trans (hb9.mono HR.out.size))
      clear hat9 hown9 hb9
      have ho := own_any l (k : Int) ao cap w9 (H.out.below (HW8.out.trans (HB9.out.mono HW8.out.size)) (Nat.le_refl _)) (by have := HR200.out.2; omega)
      rw [HN.out] at ho
      have HOw := box ho
      clear ho
      go_wp2_with fail
      refine HOw.out.mono ?_
      clear HOw
      rintro e w10 ⟨v10, rfl, hown10, hb10⟩
      obtain ⟨a10, c10, rfl, _, hat10, _, hc10⟩ := OpsAt.own hown10
      rw [hf8] at hat10 ⊢
      clear hf9 hf8
      have HA10 := box hat10
      have HA11 := box (HA9.out.below hb10 (Nat.le_refl _))
      have HB10 := box (HB9.out.trans (hb10.mono HB9.out.size))
      have HK10 := box (HK8.out.after HB10.out)
      have HOk := box (HOf.out k)
      obtain ⟨dd, Hdd⟩ : ∃ x, Box (s.dead k = x) := ⟨_, ⟨rfl⟩⟩
      obtain ⟨ll, Hll⟩ : ∃ x, Box (isLate s k = x) := ⟨_, ⟨rfl⟩⟩
      have HC1 : Box (∀ wz, Below w10.heap.size w10 wz → Calls Try.prog 10 #[.slice bo7 DL d2, .int .i64 (k : Int)] wz fun e w' => e = .returned (.bool dd) ∧ wz = w') := ⟨fun wz hz => by
        have := contains_ints (pick s.dead 12) (k : Int) bo7 d2 wz ((HD8.out.below HB10.out (Nat.le_refl _)).below hz (Nat.le_refl _)) (by have := HDl.out; omega)
        rw [HDL.out, show decide ((k : Int) ∈ pick s.dead 12) = dd by rw [← Hdd.out, Bool.eq_iff_iff, decide_eq_true_eq, mem_pick]; simp [hlt]] at this
        exact this⟩
      have HC2 : Box (∀ wz, Below w10.heap.size w10 wz → Calls Try.prog 10 #[.slice co7 LL d3, .int .i64 (k : Int)] wz fun e w' => e = .returned (.bool ll) ∧ wz = w') := ⟨fun wz hz => by
        have := contains_ints (pick (isLate s) 12) (k : Int) co7 d3 wz ((HL8.out.below HB10.out (Nat.le_refl _)).below hz (Nat.le_refl _)) (by have := HLl.out; omega)
        rw [HLL.out, show decide ((k : Int) ∈ pick (isLate s) 12) = ll by rw [← Hll.out, Bool.eq_iff_iff, decide_eq_true_eq, mem_pick]; simp [hlt]] at this
        exact this⟩
      obtain ⟨R1, HR1⟩ : ∃ x, Box (RunM.of s.out k = x) := ⟨_, ⟨rfl⟩⟩
      obtain ⟨R2, HR2⟩ : ∃ x, Box (RunM.of l k = x) := ⟨_, ⟨rfl⟩⟩
      have hq1 : R1.length ≤ c9 := by rw [← HR1.out]; exact hc9
      have hq2 : R2.length ≤ c10 := by rw [← HR2.out]; exact hc10
      have hq3 : R1.length ≤ 200 := by rw [← HR1.out]; exact Nat.le_trans (List.length_filter_le _ _) HR200.out.1
      have hq4 : R2.length ≤ 200 := by rw [← HR2.out]; exact Nat.le_trans (List.length_filter_le _ _) HR200.out.2
      have HDi : Box (dd = true → ll = false ∧ ∃ n, R1.length = n + 1 ∧ (∀ o, R1[n]? = some o → o.kind = 4) ∧ n ≤ R2.length ∧ R1.take n = R2.take n) := ⟨fun e => by
        rw [← Hll.out, ← HR1.out, ← HR2.out]
        obtain ⟨f1, n, f2, f3, f4⟩ := HOk.out.died (by rw [Hdd.out, e])
        exact ⟨f1, n, f2, fun o ho => by obtain ⟨g1, g2⟩ := List.getElem?_eq_some_iff.1 ho; rw [← g2]; exact f3 g1, f4⟩⟩
      have HAl : Box (dd = false → R1.length ≤ R2.length ∧ R1 = R2.take R1.length ∧ (ll = true ↔ R1.length ≠ R2.length)) := ⟨fun e => by rw [← Hll.out, ← HR1.out, ← HR2.out]; exact HOk.out.alive (by rw [Hdd.out, e])⟩
      rw [HR1.out] at HA11 ⊢
      rw [HR2.out] at HA10 ⊢
      obtain ⟨n1, Hn1⟩ : ∃ x, Box (R1.length = x) := ⟨_, ⟨rfl⟩⟩
      obtain ⟨n2, Hn2⟩ : ∃ x, Box (R2.length = x) := ⟨_, ⟨rfl⟩⟩
      rw [Hn1.out] at hq1 hq3 HDi HAl ⊢
      rw [Hn2.out] at hq2 hq4 HDi HAl ⊢
      have p1 := HK10.out.cell (i := 1) rfl
      have p2 := HK10.out.cell (i := 2) rfl
      have hP10 := HK10.out.lt
      clear hat10 hown10 hb10 hc9 hc10 p0 HA9 HB9 HOf HOk HK9
      go_upto_region 11 with (fail)
      have Hq := box (fun q => (⟨rfl, rfl, rfl, Nat.le_refl _, fun _ _ => rfl⟩ : Below w10.heap.size w10 (w10.drewN q)))
      go_cut [10, 11, 48] from 48 to 116 (fun s10 s11 s48 wx => s10 = .bool dd ∧ s11 = .bool ll ∧ s48 = .int .i64 (k : Int) ∧ ∃ q, wx = w10.drewN q)
      case first => as_aux_lemma =>
        go_region_held3 (fun w' => w'.cell? ⟨B7, 1, none⟩ = some (.slice bo7 DL d2) ∧ w'.cell? ⟨B7, 2, none⟩ = some (.slice co7 LL d3)) (first | exact ⟨p1, p2⟩ | assumption) (first
          | (go_at_call 10; (with_reducible refine (HC1.out _ (by first | exact (Below.refl _ _).drew | exact Hq.out _ | exact Below.refl _ _)).mono ?_); rintro e w9 ⟨rfl, rfl⟩)
          | (go_at_call 10; (with_reducible refine (HC2.out _ (by first | exact (Below.refl _ _).drew | exact Hq.out _ | exact Below.refl _ _)).mono ?_); rintro e w9 ⟨rfl, rfl⟩)
          | fail)
        go_step
        go_step
        go_meet
        exact ⟨rfl, rfl, rfl, 1, rfl⟩
      case rest =>
        obtain ⟨rfl, rfl, rfl, q, rfl⟩ := hcut
        have HX := box (HB10.out.trans ((Hq.out q).mono HB10.out.size))
        have HY1 := box (HA11.out.below (Hq.out q) (Nat.le_refl _))
        have HY2 := box (HA10.out.below (Hq.out q) (Nat.le_refl _))
        clear p1 p2 hP10 HK10 HA10 HA11 HC1 HC2 HB10
        obtain ⟨V, HV⟩ : ∃ x, Box (w10.drewN q = x) := ⟨_, ⟨rfl⟩⟩
        rw [HV.out] at HX HY1 HY2 ⊢
        clear HV Hq
        cases dd with
        | true =>
          obtain ⟨rfl, n, hn, hkind, hn2, htk⟩ := HDi.out rfl
          have hnR : n < R1.length := by rw [Hn1.out, hn]; omega
          obtain ⟨b, off, rfl, hb, hrow⟩ := HY1.out.resolve_left (by intro h; rw [h] at hnR; simp at hnR)
          obtain ⟨hc0, hc1, hc2⟩ := hrow n hnR
          rw [hkind _ (List.getElem?_eq_getElem hnR)] at hc1
          subst hn
          have HE1 := box (equal_ops (R1.take n) (R2.take n) (some ⟨b, off, none⟩) a10 c9 c10 V (Or.inr ⟨b, off, rfl, hb, fun i hi => by
            have hi' : i < R1.length := by rw [List.length_take] at hi; omega
            rw [List.getElem_take]; exact hrow i hi'⟩) (HY2.out.imp (fun h => by rw [h]; simp) fun ⟨b, off, h1, h2, h3⟩ => ⟨b, off, h1, h2, fun i hi => by
              have hi' : i < R2.length := by rw [List.length_take] at hi; omega
              rw [List.getElem_take]; exact h3 i hi'⟩) (by rw [List.length_take]; omega) (by rw [List.length_take]; omega))
          rw [List.length_take_of_le (Nat.le_of_lt hnR), List.length_take_of_le (by rw [Hn2.out]; exact hn2), show decide (R1.take n = R2.take n) = true from decide_eq_true htk] at HE1
          have hdn : ¬ (n2 : Int) < (n : Int) := by omega
          clear hrow hc0 hc2 htk hkind hnR HDi HAl HY1 HY2
          go_wp2_with fail
          refine HE1.out.mono ?_
          rintro e w11 ⟨rfl, q2, rfl⟩
          have HZ : Box (Below W8.heap.size W8 (V.drewN q2)) := ⟨HX.out.trans ⟨rfl, rfl, rfl, Nat.le_refl _, fun _ _ => rfl⟩⟩
          obtain ⟨V2, HV2⟩ : ∃ x, Box (V.drewN q2 = x) := ⟨_, ⟨rfl⟩⟩
          rw [HV2.out] at HZ ⊢
          clear HE1 HX HV2
          go_wp2_with fail
          go_roundw
          case rel => exact ⟨k + 1, hlt, by go_num, HZ⟩
          case measure => simp [RowKit.intOf]; omega
        | false =>
          obtain ⟨h1, h2, h3⟩ := HAl.out rfl
          have HE1 := box (equal_ops R1 (R2.take n1) a9 a10 c9 c10 V HY1.out (HY2.out.imp (fun h => by rw [h]; simp) fun ⟨b, off, h1, h2, h3⟩ => ⟨b, off, h1, h2, fun i hi => by
              have hi' : i < R2.length := by rw [List.length_take] at hi; omega
              rw [List.getElem_take]; exact h3 i hi'⟩) (by rw [Hn1.out]; omega) (by rw [List.length_take]; omega))
          rw [List.length_take_of_le (by rw [Hn2.out]; exact h1), Hn1.out, show decide (R1 = R2.take n1) = true from decide_eq_true h2] at HE1
          have hdn : ¬ (n2 : Int) < (n1 : Int) := by omega
          cases ll with
          | true =>
            have hne : ¬ n1 = n2 := h3.1 rfl
            have hqq : ((n1 : Int) == (n2 : Int)) = false := by simp; omega
            clear h2 h3 hne HDi HAl HY1 HY2
            go_wp2_with fail
            refine HE1.out.mono ?_
            rintro e w11 ⟨rfl, q2, rfl⟩
            have HZ : Box (Below W8.heap.size W8 (V.drewN q2)) := ⟨HX.out.trans ⟨rfl, rfl, rfl, Nat.le_refl _, fun _ _ => rfl⟩⟩
            obtain ⟨V2, HV2⟩ : ∃ x, Box (V.drewN q2 = x) := ⟨_, ⟨rfl⟩⟩
            rw [HV2.out] at HZ ⊢
            clear HE1 HX HV2
            go_wp2_with fail
            go_roundw
            case rel => exact ⟨k + 1, hlt, by go_num, HZ⟩
            case measure => simp [RowKit.intOf]; omega
          | false =>
            have hne : n1 = n2 := Classical.byContradiction fun h => by have := h3.2 h; cases this
            have hqq : ((n1 : Int) == (n2 : Int)) = true := by simp; omega
            clear h2 h3 hne HDi HAl HY1 HY2
            go_wp2_with fail
            refine HE1.out.mono ?_
            rintro e w11 ⟨rfl, q2, rfl⟩
            have HZ : Box (Below W8.heap.size W8 (V.drewN q2)) := ⟨HX.out.trans ⟨rfl, rfl, rfl, Nat.le_refl _, fun _ _ => rfl⟩⟩
            obtain ⟨V2, HV2⟩ : ∃ x, Box (V.drewN q2 = x) := ⟨_, ⟨rfl⟩⟩
            rw [HV2.out] at HZ ⊢
            clear HE1 HX HV2
            go_wp2_with fail
            go_roundw
            case rel => exact ⟨k + 1, hlt, by go_num, HZ⟩
            case measure => simp [RowKit.intOf]; omega
    · obtain rfl : k = 12 := by omega
      have HE := box (HW8.out.trans (HR.out.mono HW8.out.size))
      go_wp2_with fail
      go_ret
      exact ⟨rfl, HE.out⟩
end
end Go.Proofs.Ytnnkejolfhhmlaa
