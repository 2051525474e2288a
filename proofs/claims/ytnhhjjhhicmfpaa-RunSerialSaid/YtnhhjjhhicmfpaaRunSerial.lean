/- RunSerial is proved for every input. -/
import Derived.Test.YtnhhjjhhicmfpaaLawKit
import Derived.Test.YtnhhjjhhicmfpaaRunSer
import Derived.Test.YtnhhjjhhicmfpaaOfCom
import Derived.Test.YtnhhjjhhicmfpaaLike
import Derived.Test.YtnhhjjhhicmfpaaOpsOpen
import Derived.Test.YtnhhjjhhicmfpaaNumOpen
import Derived.Test.YtnhhjjhhicmfpaaIntEq
import Derived.Test.YtnhhjjhhicmfpaaRest
namespace Go.Proofs.Ytnhhjjhhicmfpaa
open Go.RowKit Go.Lib

theorem RunM.check_fits {l : List OpM} (h : RunM.check l = 0) : RunM.Fits l := by
  obtain ⟨h1, h2, _⟩ := (RunM.check_iff l).1 h
  refine ⟨by omega, fun o ho => ?_⟩
  have := RunM.bad_zero (h2 o ho)
  omega
theorem RunM.go_vals : ∀ (l : List OpM) (ov : Nat → Bool), RunM.go l ov ≠ 11
  | [], _ => by simp [RunM.go]
  | o :: l, ov => by
    rw [RunM.go]
    split
    · unfold RunM.bad; split
      · simp
      · split
        · simp
        · split <;> simp
    · split
      · simp
      · exact RunM.go_vals l _
theorem RunM.check_vals (l : List OpM) : RunM.check l ≠ 11 := by
  unfold RunM.check
  split
  · simp
  · exact RunM.go_vals l _
def RunM.serEx : List OpM := [⟨0, 2, 1⟩, ⟨1, 1, 1⟩, ⟨1, 3, 0⟩, ⟨0, 3, 0⟩]
theorem RunM.serEx_check : RunM.check RunM.serEx = 0 := by decide
theorem RunM.serEx_order : GrM.order 12 (RunM.edges RunM.serEx) = some [0, 1, 2, 3, 4, 5, 6, 7, 8, 9, 10, 11] := by decide +kernel
theorem RunM.serEx_serial : RunM.serialOf RunM.serEx [0, 1, 2, 3, 4, 5, 6, 7, 8, 9, 10, 11] = [0, 1] := by decide +kernel
theorem serial_ex (b : Nat) (w : World) (h : Blk w b 25 [.int .i64 0, .int .i64 2, .int .i64 1, .int .i64 1, .int .i64 1, .int .i64 1, .int .i64 1, .int .i64 3, .int .i64 0, .int .i64 0, .int .i64 3, .int .i64 0]) :
    Calls Try.prog 11 #[.slice (some ⟨b, 0, none⟩) 4 4] w fun e w' => Below w.heap.size w w' ∧ ∃ ao c, e = .returned (.tuple #[.slice ao 2 c, .int .i64 0]) ∧ IntsAt w' ao [0, 1] := by
  refine (serial_any RunM.serEx (some ⟨b, 0, none⟩) 4 w (Or.inr ⟨b, 0, rfl, h.lt, ?_⟩) (RunM.check_fits RunM.serEx_check) (by decide) (by decide)).mono ?_
  · intro k hk
    match k, hk with
    | 0, _ => exact ⟨h.cell rfl, h.cell rfl, h.cell rfl⟩
    | 1, _ => exact ⟨h.cell rfl, h.cell rfl, h.cell rfl⟩
    | 2, _ => exact ⟨h.cell rfl, h.cell rfl, h.cell rfl⟩
    | 3, _ => exact ⟨h.cell rfl, h.cell rfl, h.cell rfl⟩
  · rintro e w' ⟨hb, ⟨hc, _⟩ | ⟨_, ho, _⟩ | ⟨_, r, v, ho, rfl, hown⟩⟩
    · exact absurd RunM.serEx_check hc
    · rw [RunM.serEx_order] at ho; simp at ho
    · rw [RunM.serEx_order] at ho
      obtain rfl := Option.some.inj ho
      rw [RunM.serEx_serial] at hown
      obtain ⟨ao, c, rfl, _, hat, _⟩ := IntsAt.own hown
      exact ⟨hb, ao, c, rfl, hat⟩
theorem ints_two (w : World) : IntsAt (w.alloc (.cells #[.int .i64 0, .int .i64 1] 3)) (some ⟨w.heap.size, 0, none⟩) [0, 1] := by
  have hb := Blk.new w [.int .i64 0, .int .i64 1] 3
  refine Or.inr ⟨_, 0, rfl, hb.lt, ?_⟩
  intro k hk
  match k, hk with
  | 0, _ => exact hb.cell rfl
  | 1, _ => exact hb.cell rfl
/-- Transactions, each once. -/
def RunM.Each (es : List Int) : Prop := es.Nodup ∧ ∀ x ∈ es, 0 ≤ x ∧ x < 12
theorem RunM.Each.len {es : List Int} (h : RunM.Each es) : es.length ≤ 12 := by
  have := List.Nodup.length_le_of_subset h.1 (l₂ := (List.range 12).map fun n : Nat => (n : Int)) (by
    intro x hx
    have := h.2 x hx
    rw [List.mem_map]
    exact ⟨x.toNat, by rw [List.mem_range]; omega, by omega⟩)
  simpa using this
theorem RunM.Each.put {es : List Int} {x : Int} (h : RunM.Each es) (hx : ¬ x ∈ es) (h0 : 0 ≤ x) (h1 : x < 12) : RunM.Each (es ++ [x]) := by
  refine ⟨?_, fun y hy => ?_⟩
  · rw [List.nodup_append]
    refine ⟨h.1, by simp, fun a ha b hb => ?_⟩
    rw [List.mem_singleton.1 hb]
    rintro rfl; exact hx ha
  · rcases List.mem_append.1 hy with h2 | h2
    · exact h.2 y h2
    · rw [List.mem_singleton.1 h2]; exact ⟨h0, h1⟩
/-- The row of those found so far. -/
structure RunM.EA (w : World) (B : Nat) (v : Value) (es : List Int) (W : World) : Prop where
  each : RunM.Each es
  below : Below w.heap.size w W
  own : W.ownsRow B 3 1 v es.length (intVals es)

set_option maxRecDepth 20000 in
set_option maxHeartbeats 16000000 in
theorem runSerial_calls (l : List OpM) (s : List Int) (ao bo : Option Addr) (cap bc : Nat) (w : World) (h : OpsAt w ao l) (hf : RunM.Fits l) (hcap : l.length ≤ cap) (hc2 : cap * 24 ≤ 140737488355328) (h' : IntsAt w bo s) (hsl : s.length ≤ 9000000000000000000) :
    Calls Try.prog 3 #[.slice ao l.length cap, .slice bo s.length bc] w fun e w' => e = .returned (.bool true) ∧ Below w.heap.size w w' := by
  obtain ⟨i0, hi0, hz0, hz1, hz2⟩ := info_parts Try.infoIntG
  have H := box h; have HS := box h'
  have HSer := box (fun W (hb : Below w.heap.size w W) => serial_any l ao cap W (h.below hb (Nat.le_refl _)) hf hcap (by omega))
  have HCom := box (fun W (hb : Below w.heap.size w W) => ofCom_any l ao cap W (h.below hb (Nat.le_refl _)) (by omega))
  clear h h' hf hcap hc2
  go_enter Try.func3, Try.ntmps3
  go_wp2_with fail
  refine (op_any _ _ _ _).mono ?_
  rintro e w1 ⟨rfl, hb1⟩
  have HB1 := box hb1; clear hb1
  go_wp2_with fail
  refine (op_any _ _ _ _).mono ?_
  rintro e w2 ⟨rfl, hb2⟩
  have HB2 := box (below_tr HB1.out hb2); clear hb2
  go_wp2_with fail
  refine (op_any _ _ _ _).mono ?_
  rintro e w3 ⟨rfl, hb3⟩
  have HB3 := box (below_tr HB2.out hb3); clear hb3
  go_wp2_with fail
  refine (op_any _ _ _ _).mono ?_
  rintro e w4 ⟨rfl, hb4⟩
  have HB4 := box (below_tr HB3.out hb4); clear hb4
  go_wp2_with fail
  refine (serial_ex w4.heap.size _ (Blk.new w4 [.int .i64 0, .int .i64 2, .int .i64 1, .int .i64 1, .int .i64 1, .int .i64 1, .int .i64 1, .int .i64 3, .int .i64 0, .int .i64 0, .int .i64 3, .int .i64 0] _)).mono ?_
  rintro e w5 ⟨hb5, so, sc, rfl, hat⟩
  have HB5 := box (below_tr (HB4.out.alloc HB4.out.size _) hb5)
  have HA := box hat
  clear hb5 hat HB1 HB2 HB3 HB4
  go_wp2_with fail
  refine (equalInts_same [0, 1] so _ sc 2 _ (HA.out.below ((Below.refl _ _).alloc (Nat.le_refl _) _) (Nat.le_refl _)) (ints_two w5) (by decide)).mono ?_
  rintro e w6 ⟨rfl, n6, rfl⟩
  have HB6 : Box (Below w.heap.size w ((w5.alloc (.cells #[.int .i64 0, .int .i64 1] 3)).drewN n6)) := ⟨below_tr (HB5.out.alloc HB5.out.size _) ⟨rfl, rfl, rfl, Nat.le_refl _, fun _ _ => rfl⟩⟩
  generalize (w5.alloc (.cells #[.int .i64 0, .int .i64 1] 3)).drewN n6 = W6 at *
  clear HA HB5
  go_wp2_with fail
  refine (HSer.out _ HB6.out).mono ?_
  rintro e w7 ⟨hb7, ⟨hc, rfl⟩ | ⟨hc, ho, rfl⟩ | ⟨hc, r, v, ho, rfl, hown⟩⟩
  · -- the run is wrong
    have HB7 := box (below_tr HB6.out hb7)
    have g0 : (RunM.check l == 0) = false := by simpa using hc
    have g1 : (RunM.check l != 11) = true := by simpa using RunM.check_vals l
    generalize RunM.check l = c at *
    clear hb7 hc
    go_wp2_with fail
    refine (HCom.out _ HB7.out).mono ?_
    rintro e w8 ⟨v8, rfl, hown8, hb8⟩
    have HB8 := box (below_tr HB7.out hb8)
    clear hown8 hb8
    go_wp2_with fail
    go_ret
    exact ⟨by simp, HB8.out⟩
  · -- a loop
    have HB7 := box (below_tr HB6.out hb7); have Hc := box hc; have Ho := box ho
    clear hb7 hc ho
    go_wp2_with fail
    refine (HCom.out _ HB7.out).mono ?_
    rintro e w8 ⟨v8, rfl, hown8, hb8⟩
    have HB8 := box (below_tr HB7.out hb8)
    obtain ⟨mo, mc, rfl, _, hm, hmnil, _⟩ := OpsAt.own hown8
    have HM := box hm; have HMn := box hmnil
    have HmL : Box ((RunM.ofCom l).length ≤ 200) := ⟨((RunM.check_iff _).1 (RunM.ofCom_check Hc.out)).1⟩
    have HmF : Box (RunM.Fits (RunM.ofCom l)) := ⟨RunM.check_fits (RunM.ofCom_check Hc.out)⟩
    clear hown8 hb8 hm hmnil
    have hs8 := HB8.out.size
    obtain ⟨m, Hm⟩ : ∃ m, Box (RunM.ofCom l = m) := ⟨_, ⟨rfl⟩⟩
    rw [Hm.out] at HM HmL HmF ⊢
    go_wp2_with fail
    go_loopw [13, 67] (fun t13 t67 wr => ∃ (k : Nat) (es : List Int) (v : Value), k ≤ s.length ∧ v = t13 ∧ t67 = .int .i64 (k : Int) ∧ Box (RunM.EA w w8.heap.size v es wr ∧ Below w8.heap.size w8 wr)) (fun _ t67 _ => s.length - (intOf t67).toNat)
    case atStart => exact ⟨0, [], _, Nat.zero_le _, rfl, rfl, ⟨⟨⟨List.nodup_nil, by simp⟩, HB8.out, World.ownsRow_nil _ _ _ _⟩, Below.refl _ _⟩⟩
    case round =>
      obtain ⟨k, es, v, hk, rfl, rfl, HR⟩ := hrel
      have hlen := HR.out.1.each.len
      by_cases hlt : k < s.length
      · obtain ⟨b, off, rfl, _, hrow⟩ := ((HS.out.below HR.out.1.below (Nat.le_refl _)).resolve_left (by intro h; rw [h] at hlt; simp at hlt))
        have hc := hrow k hlt
        generalize s[k] = x at *
        clear hrow
        have HRs := box (rest_any x 12 wr (by omega) (by omega))
        rw [show ((12 : Nat) : Int) = 12 from rfl] at HRs
        have hr0 := Int.emod_nonneg x (show (12 : Int) ≠ 0 by omega)
        have hr1 := Int.emod_lt_of_pos x (show (0 : Int) < 12 by omega)
        have hr12 : (x % 12).toNat < 12 := by omega
        generalize (x % 12).toNat = r at *
        clear hr0 hr1
        go_wp2_with fail
        refine HRs.out.mono ?_
        rintro e w9 ⟨rfl, rfl⟩
        obtain ⟨eo, ec, rfl, _, he, _, _⟩ := IntsAt.own HR.out.1.own
        have HE := box he
        clear he
        go_wp2_with fail
        refine (contains_ints es (r : Int) eo ec wr HE.out (by omega)).mono ?_
        rintro e w9 ⟨rfl, rfl⟩
        have HPut := box (fun hx => HR.out.1.each.put (x := (r : Int)) hx (by omega) (by omega))
        by_cases hin : (r : Int) ∈ es
        · rw [decide_eq_true hin]
          clear hin
          go_wp2_with fail
          go_roundw
          case rel => exact ⟨k + 1, es, _, hlt, rfl, by go_num, HR⟩
          case measure => simp [intOf]; omega
        · have HEach := box (HPut.out hin)
          rw [decide_eq_false hin]
          clear hin HPut
          have hbs := HR.out.1.below.size
          have hb8s := HR.out.2.size
          have hown2 := (HR.out.1.own).alloc (.cells #[.int .i64 (r : Int)] 3)
          go_wp2_with (at_builtin; go_must (refine wpList_append_own _ rfl _ _ 23 rfl w8.heap.size 3 i0 _ 1 8 Try.underlying23 hi0 hz0 hz1 hz2 rfl (by decide) _ _ _ rfl hown2 ⟨wr.heap.size, 0, none⟩ 1 1 [.int .i64 (r : Int)] rfl rfl (cells_new wr [.int .i64 (r : Int)] 3) (by simp [Value.oneCell']) (by unfold maxLen; omega) (by omega) (by simp; omega) ?_))
          intro v' w9 hown3 hgrow _
          have hB9 : Below w8.heap.size w8 w9 := (HR.out.2.alloc hb8s _).grown hgrow (by simp; omega) (fun b hb => (HR.out.1.own.lt b hb).1)
          have HB9 := box hB9; have HO := box hown3
          clear hown3 hgrow hown2 hB9
          go_wp2_with fail
          go_roundw
          case rel =>
            refine ⟨k + 1, es ++ [(r : Int)], _, hlt, rfl, by go_num, ⟨⟨HEach.out, below_tr HB8.out HB9.out, ?_⟩, HB9.out⟩⟩
            rw [intVals_append, List.length_append]
            exact HO.out
          case measure => simp [intOf]; omega
      · go_wp2_with fail
        clear hk hlt
        go_loopw [13, 82] (fun t13 t82 wr => ∃ (k : Nat) (es : List Int) (v : Value), k ≤ 12 ∧ v = t13 ∧ t82 = .int .i64 (k : Int) ∧ Box ((RunM.EA w w8.heap.size v es wr ∧ Below w8.heap.size w8 wr) ∧ ∀ j : Nat, j < k → (j : Int) ∈ es)) (fun _ t82 _ => 12 - (intOf t82).toNat)
        case atStart => exact ⟨0, es, _, by omega, rfl, rfl, ⟨HR.out, fun j hj => by omega⟩⟩
        case round =>
          obtain ⟨k2, es2, v2, hk2, rfl, rfl, HR2⟩ := hrel
          have hlen2 := HR2.out.1.1.each.len
          clear HR hlen
          obtain ⟨eo, ec, rfl, _, he, _, _⟩ := IntsAt.own HR2.out.1.1.own
          have HE := box he
          clear he
          by_cases h12 : k2 < 12
          · have h12i : (k2 : Int) < 12 := by omega
            go_wp2_with fail
            refine (contains_ints es2 (k2 : Int) eo ec wr HE.out (by omega)).mono ?_
            rintro e w9 ⟨rfl, rfl⟩
            have HPut := box (fun hx => HR2.out.1.1.each.put (x := (k2 : Int)) hx (by omega) (by omega))
            by_cases hin : (k2 : Int) ∈ es2
            · rw [decide_eq_true hin]
              have Hin := box hin
              clear hin
              go_wp2_with fail
              go_roundw
              case rel => exact ⟨k2 + 1, es2, _, h12, rfl, by go_num, ⟨HR2.out.1, fun j hj => by
                by_cases e : j = k2
                · rw [e]; exact Hin.out
                · exact HR2.out.2 j (by omega)⟩⟩
              case measure => simp [intOf]; omega
            · have HEach := box (HPut.out hin)
              rw [decide_eq_false hin]
              clear hin HPut
              have hb8s := HR2.out.1.2.size
              have hown2 := (HR2.out.1.1.own).alloc (.cells #[.int .i64 (k2 : Int)] 3)
              go_wp2_with (at_builtin; go_must (refine wpList_append_own _ rfl _ _ 23 rfl w8.heap.size 3 i0 _ 1 8 Try.underlying23 hi0 hz0 hz1 hz2 rfl (by decide) _ _ _ rfl hown2 ⟨wr.heap.size, 0, none⟩ 1 1 [.int .i64 (k2 : Int)] rfl rfl (cells_new wr [.int .i64 (k2 : Int)] 3) (by simp [Value.oneCell']) (by unfold maxLen; omega) (by omega) (by simp; omega) ?_))
              intro v' w9 hown3 hgrow _
              have hB9 : Below w8.heap.size w8 w9 := (HR2.out.1.2.alloc hb8s _).grown hgrow (by simp; omega) (fun b hb => (HR2.out.1.1.own.lt b hb).1)
              have HB9 := box hB9; have HO := box hown3
              clear hown3 hgrow hown2 hB9
              go_wp2_with fail
              go_roundw
              case rel =>
                refine ⟨k2 + 1, es2 ++ [(k2 : Int)], _, h12, rfl, by go_num, ⟨⟨⟨HEach.out, below_tr HB8.out HB9.out, ?_⟩, HB9.out⟩, fun j hj => ?_⟩⟩
                · rw [intVals_append, List.length_append]
                  exact HO.out
                · rw [List.mem_append]
                  by_cases e : j = k2
                  · right; rw [e]; simp
                  · left; exact HR2.out.2 j (by omega)
              case measure => simp [intOf]; omega
          · obtain rfl : k2 = 12 := by omega
            have HM9 := box (HM.out.below HR2.out.1.2 (Nat.le_refl _))
            have HNo := box (RunM.serial_no Hc.out Ho.out HR2.out.1.1.each.1 (fun t ht => HR2.out.2 t ht))
            rw [Hm.out] at HNo
            have HF4 : Box (RunM.Fits (StampM.inTurn m es2)) := ⟨by
              refine RunM.check_fits ?_
              have h1 := HNo.out.1
              have h2 : RunM.check m = 0 := by rw [← Hm.out]; exact RunM.ofCom_check Hc.out
              unfold RunM.likeOk at h1
              rw [h2, if_neg (by simp)] at h1
              exact h1⟩
            have hmL := HmL.out
            go_wp2_with fail
            refine (inTurn_any m es2 mo eo mc ec _ HM9.out HE.out HmL.out (by omega)).mono ?_
            rintro e w11 ⟨v, rfl, hown11, hb11⟩
            have HB11 := box (below_tr HR2.out.1.1.below hb11)
            obtain ⟨ao4, c4, rfl, _, hat4, hnil4, _⟩ := OpsAt.own hown11
            have HA4 := box hat4; have Hn4 := box hnil4
            have HM11 := box (HM9.out.below hb11 (Nat.le_refl _))
            have HLk := box HNo.out.2
            have HOk := box HNo.out.1
            clear hb11 hown11 hat4 hnil4
            obtain ⟨T, HTT⟩ : ∃ T, Box (StampM.inTurn m es2 = T) := ⟨_, ⟨rfl⟩⟩
            rw [HTT.out] at HA4 HF4 HLk HOk ⊢
            go_wp2_with fail
            refine (like_any m T mo ao4 mc c4 _ HM11.out HA4.out HMn.out Hn4.out HmF.out HF4.out).mono ?_
            rintro e w12 ⟨rfl, hb12⟩
            rw [HLk.out, HOk.out]
            have HB12 := box (below_tr HB11.out hb12)
            clear hb12
            go_wp2_with fail
            go_ret
            exact ⟨by simp, HB12.out⟩
  · -- an order
    have HB7 := box (below_tr HB6.out hb7); have Hc := box hc
    have HYes := box (RunM.serial_yes hc ho)
    have hOk := GrM.order_ok (n := 12) ho
    have hsl12 : (RunM.serialOf l r).length ≤ 12 := by
      unfold RunM.serialOf
      rw [List.length_map]
      have := List.length_filter_le (fun t => RunM.endB l 3 t) r
      omega
    obtain ⟨so, sc, rfl, _, hat, _, _⟩ := IntsAt.own hown
    have HSo := box hat
    clear hb7 hc ho hOk hown hat
    obtain ⟨S, HSS⟩ : ∃ S, Box (RunM.serialOf l r = S) := ⟨_, ⟨rfl⟩⟩
    rw [HSS.out] at HYes HSo hsl12 ⊢
    go_wp2_with fail
    refine (HCom.out _ HB7.out).mono ?_
    rintro e w8 ⟨v8, rfl, hown8, hb8⟩
    have HB8 := box (below_tr HB7.out hb8)
    obtain ⟨mo, mc, rfl, _, hm, hmnil, _⟩ := OpsAt.own hown8
    have HM := box hm; have HMn := box hmnil
    have HmL : Box ((RunM.ofCom l).length ≤ 200) := ⟨((RunM.check_iff _).1 (RunM.ofCom_check Hc.out)).1⟩
    have HmF : Box (RunM.Fits (RunM.ofCom l)) := ⟨RunM.check_fits (RunM.ofCom_check Hc.out)⟩
    have HSo8 := box (HSo.out.below hb8 (Nat.le_refl _))
    have HmC : Box (RunM.check (RunM.ofCom l) = 0) := ⟨RunM.ofCom_check Hc.out⟩
    clear hown8 hb8 hm hmnil
    obtain ⟨m, Hm⟩ : ∃ m, Box (RunM.ofCom l = m) := ⟨_, ⟨rfl⟩⟩
    rw [Hm.out] at HM HmL HmF HYes HmC ⊢
    have HF4 : Box (RunM.Fits (StampM.inTurn m S)) := ⟨by
      refine RunM.check_fits ?_
      have h1 := HYes.out.1
      unfold RunM.likeOk at h1
      rw [HmC.out, if_neg (by simp)] at h1
      exact h1⟩
    have hmL := HmL.out
    go_wp2_with fail
    refine (inTurn_any m S mo so mc sc _ HM.out HSo8.out HmL.out (by omega)).mono ?_
    rintro e w11 ⟨v, rfl, hown11, hb11⟩
    have HB11 := box (below_tr HB8.out hb11)
    obtain ⟨ao4, c4, rfl, _, hat4, hnil4, _⟩ := OpsAt.own hown11
    have HA4 := box hat4; have Hn4 := box hnil4
    have HM11 := box (HM.out.below hb11 (Nat.le_refl _))
    have HLk := box HYes.out.2
    have HOk := box HYes.out.1
    clear hb11 hown11 hat4 hnil4
    obtain ⟨T, HTT⟩ : ∃ T, Box (StampM.inTurn m S = T) := ⟨_, ⟨rfl⟩⟩
    rw [HTT.out] at HA4 HF4 HLk HOk ⊢
    go_wp2_with fail
    refine (like_any m T mo ao4 mc c4 _ HM11.out HA4.out HMn.out Hn4.out HmF.out HF4.out).mono ?_
    rintro e w12 ⟨rfl, hb12⟩
    rw [HLk.out, HOk.out]
    have HB12 := box (below_tr HB11.out hb12)
    clear hb12
    go_wp2_with fail
    go_ret
    exact ⟨by simp, HB12.out⟩
namespace lawRunSerial
open Go.ChangeShapes Go.WideShapes Go.ChangeAt Go.RowKit Go.ChangeMaps

set_option maxRecDepth 100000 in
theorem lifted (os : Os) (started : os.Started) (H : Type) (enc : TypeId × Value → H) :
    ReturnsInHanded {} Try.checked os 3 .any (Rows.runSerialSpec.pre6 enc Try.prog Try.f3 [] false) (Rows.runSerialSpec.post enc Try.prog Try.f3 false true false false) := by
  refine LawKit.law_lifted started (by kernel_rfl) Try.func3 rfl
    (fun ds h => by
      match ds, h with
      | [_, _], _ => rfl)
    rfl Try.underlying4 (by intro t ht; exact of_decide_eq_true (p := Try.prog.readableRec t = true ∧ t < Try.prog.types.size) (by revert t ht; decide +kernel))
    (ChangeSpec.witness6 (enc := enc) (C := Try.checked) false ⟨#[], #[.slice none 0 0, .slice none 0 0], []⟩ 8 (by kernel_rfl) (by kernel_rfl) (by kernel_rfl) (by kernel_rfl)) ?_
  intro W base args ds ps hval hA hsz hlt hfz
  have hA' := hA
  rw [Try.params3] at hA hval
  obtain ⟨v0, vs0, d0, ds0, p0, q0, hargs, rfl, rfl, h0, r0⟩ := trodAll_cons hA
  obtain ⟨v1, vs1, d1, ds1, p1, q1, rfl, rfl, rfl, h1, r1⟩ := trodAll_cons r0
  obtain ⟨rfl, rfl, rfl⟩ := trodAll_nil r1
  obtain rfl : args = #[v0, v1] := by cases args; simp_all
  obtain ⟨ao, cap, L, rfl, hnil, hat, hfits, hcap, hc2⟩ := open_ops (hval 0 _ _ rfl rfl) h0 (Open.weights_bound hsz (j := 0) (by rw [Try.params3]; rfl) rfl)
  obtain ⟨bo, bc, M, rfl, _, hat2, hm, hbc, _⟩ := open_numbers (hval 1 _ _ rfl rfl) h1 (Open.weights_bound hsz (j := 1) (by rw [Try.params3]; rfl) rfl)
  refine (runSerial_calls L M ao bo cap bc W hat hfits hcap hc2 hat2 (by omega)).mono ?_
  rintro e W' ⟨rfl, hb⟩
  exact ⟨rfl, hb⟩

theorem proved : Rows.RunSerialSaid :=
  OpenClaim.holds_of_wide 3 Try.f3 rfl rfl rfl rfl rfl rfl rfl ⟨rfl, rfl, rfl, rfl, rfl⟩ rfl rfl rfl rfl rfl (by kernel_rfl) Try.func3 (by kernel_rfl)
    (of_decide_eq_true (by kernel_rfl)) (by unfold Func.isWrapper; first | (rw [if_pos (by decide +kernel)]; kernel_rfl) | (rw [if_neg (by decide +kernel)]; exact ⟨rfl, rfl⟩))
    (fun os started H enc _ => lifted os started H enc)
end lawRunSerial
end Go.Proofs.Ytnhhjjhhicmfpaa
