/- SeeSerial is proved for every input. -/
import Derived.Test.YtnhhjjhhicmfpaaSeeW
import Derived.BigQuiet
import Derived.Test.YtnhhjjhhicmfpaaLawKit
import Derived.Test.YtnhhjjhhicmfpaaSeeA
import Derived.Test.YtnhhjjhhicmfpaaSeeLw
import Derived.Test.YtnhhjjhhicmfpaaRunSer
import Derived.Test.YtnhhjjhhicmfpaaOfCom
import Derived.Test.YtnhhjjhhicmfpaaOpsOpen
namespace Go.Proofs.Ytnhhjjhhicmfpaa
section
open Go.RowKit Go.Lib

set_option maxRecDepth 20000 in
set_option maxHeartbeats 2000000 in
theorem equalSeen_same (l : List EgM) (ao bo : Option Addr) (cap cap' : Nat) (w : World) (h : EgsAt w ao l) (h' : EgsAt w bo l) (hn : l.length ≤ 9000000000000) :
    Calls Try.prog 25 #[.slice ao l.length cap, .slice bo l.length cap'] w fun e w' => e = .returned (.bool true) ∧ ∃ n, w' = w.drewN n := by
  have H := box h; have H' := box h'
  clear h h'
  have q0 : ((l.length : Int) == (l.length : Int)) = true := by simp
  go_enter Try.func25, Try.ntmps25
  go_wp2_with fail
  go_loopw [13] (fun t13 wr => ∃ k n : Nat, wr = w.drewN n ∧ k ≤ l.length ∧ t13 = .int .i64 (k : Int)) (fun t13 _ => l.length - (RowKit.intOf t13).toNat)
  case atStart => exact ⟨0, 0, rfl, Nat.zero_le _, rfl⟩
  case round =>
    obtain ⟨k, n0, rfl, hk, rfl⟩ := hrel
    by_cases hlt : k < l.length
    · obtain ⟨b, off, rfl, _, hrow⟩ := (H.out.resolve_left (by intro h; rw [h] at hlt; simp at hlt))
      obtain ⟨b', off', rfl, _, hrow'⟩ := (H'.out.resolve_left (by intro h; rw [h] at hlt; simp at hlt))
      obtain ⟨hc0, hc1⟩ := hrow k hlt
      obtain ⟨hd0, hd1⟩ := hrow' k hlt
      generalize l[k] = o at *
      obtain ⟨a0, a1⟩ := o
      simp only at hc0 hc1 hd0 hd1
      clear hrow hrow'
      have e0 : (a0 == a0) = true := by simp
      have e1 : (a1 == a1) = true := by simp
      go_wp2_with fail
      go_quiet (fail)
      go_wp2_with fail
      go_roundw
      case rel => exact ⟨k + 1, n0 + nq, rfl, hlt, by go_num⟩
      case measure => simp [RowKit.intOf]; omega
    · go_wp2_with fail
      go_ret
      exact ⟨rfl, n0, rfl⟩
end
section
open Go.RowKit Go.Lib

theorem RunM.check_fits {l : List OpM} (h : RunM.check l = 0) : RunM.Fits l := by
  obtain ⟨h1, h2, _⟩ := (RunM.check_iff l).1 h
  refine ⟨by omega, fun o ho => ?_⟩
  have := RunM.bad_zero (h2 o ho)
  omega
namespace SeeM
open RunM
def exA : List OpM := [⟨0, 2, 1⟩, ⟨1, 1, 1⟩]
theorem exA_check : RunM.check exA = 0 := by decide
theorem exA_reads : readsTo exA exA.length = [⟨1, 0⟩] := by decide +kernel
/-- If all commit, none is left out. -/
theorem com_all {l : List OpM} (h : (ofCom l).length = l.length) : ofCom l = l := List.filter_sublist.eq_of_length h
theorem com_none {l : List OpM} (hc : check l = 0) (h : ofCom l = l) : ∀ o ∈ l, o.kind ≠ 4 := by
  intro o ho hk
  have hp := ((check_iff l).1 hc).2.2
  have h1 : o ∈ ofCom l := by rw [h]; exact ho
  have h2 := (mem_ofCom.1 h1).2
  have hne : o ≠ ⟨o.tx, 3, 0⟩ := fun e => by rw [e] at hk; simp at hk
  rcases sub2_two ho h2 hne with hs | hs
  · have := (List.pairwise_cons.1 (hp.sublist hs)).1 ⟨o.tx, 3, 0⟩ (by simp) rfl
    omega
  · have := (List.pairwise_cons.1 (hp.sublist hs)).1 o (by simp) rfl
    simp at this
/-- One behind another in the order that is told: the same is read, and the same transaction is last. -/
theorem serial_law {l : List OpM} {r : List Nat} (hc : check l = 0) (ho : GrM.order 12 (edges l) = some r) (ha : ofCom l = l) :
    check (StampM.inTurn l (serialOf l r)) = 0 ∧ (∀ o ∈ StampM.inTurn l (serialOf l r), o.kind ≠ 4) ∧ alike l (StampM.inTurn l (serialOf l r)) = true := by
  obtain ⟨h1, h2⟩ := serial_yes hc ho
  rw [ha] at h1 h2
  have hcm : check (StampM.inTurn l (serialOf l r)) = 0 := by
    unfold likeOk at h1
    rw [hc, if_neg (by simp)] at h1
    exact h1
  refine ⟨hcm, fun o ho => ?_, like_alike h2⟩
  have hn := com_none hc ha
  unfold StampM.inTurn at ho
  obtain ⟨t, _, h3⟩ := List.mem_flatMap.1 ho
  exact hn o (List.mem_filter.1 h3).1
theorem last_law {l m : List OpM} (hl : check l = 0) (hm : check m = 0) (h : alike l m = true) {it : Nat} (hi : it < 20) :
    (lastTo l it l.length = -1 ∧ lastTo m it m.length = -1) ∨ ∃ i j : Nat, i < l.length ∧ j < m.length ∧ lastTo l it l.length = (i : Int) ∧ lastTo m it m.length = (j : Int) ∧ (l[i]!).tx = (m[j]!).tx := by
  unfold alike at h
  rw [Bool.and_eq_true, Bool.and_eq_true] at h
  have h1 : lastN l it = lastN m it := of_decide_eq_true (List.all_eq_true.1 h.1.1 it (List.mem_range.2 hi))
  unfold lastN at h1
  have tx : ∀ {l : List OpM} {i : Nat}, check l = 0 → i < l.length → 0 ≤ (l[i]!).tx := fun {l i} hc hi => by
    rw [getElem!_pos l i hi]; exact (bad_zero (((check_iff l).1 hc).2.1 _ (List.getElem_mem hi))).1
  have nm : ∀ {l : List OpM} {i : Nat}, (nmOf l (i : Int)).frm = (l[i]!).tx := fun {l i} => by
    unfold nmOf; rw [if_neg (by omega), Int.toNat_natCast]
  rcases lastTo_spec l it l.length with ⟨e1, _⟩ | ⟨i, a1, e1, _⟩
  · rcases lastTo_spec m it m.length with ⟨e2, _⟩ | ⟨j, a2, e2, _⟩
    · exact Or.inl ⟨e1, e2⟩
    · exfalso
      rw [e1, e2] at h1
      have := congrArg EgM.frm h1
      rw [nm] at this
      have h3 := tx hm a2
      have h4 : (nmOf l (-1)).frm = -1 := rfl
      omega
  · rcases lastTo_spec m it m.length with ⟨e2, _⟩ | ⟨j, a2, e2, _⟩
    · exfalso
      rw [e1, e2] at h1
      have := congrArg EgM.frm h1
      rw [nm] at this
      have h3 := tx hl a1
      have h4 : (nmOf m (-1)).frm = -1 := rfl
      omega
    · refine Or.inr ⟨i, j, a1, a2, e1, e2, ?_⟩
      rw [e1, e2] at h1
      have := congrArg EgM.frm h1
      rwa [nm, nm] at this
end SeeM
theorem reads_ex (b : Nat) (w : World) (h : Blk w b 25 [.int .i64 0, .int .i64 2, .int .i64 1, .int .i64 1, .int .i64 1, .int .i64 1]) :
    Calls Try.prog 24 #[.slice (some ⟨b, 0, none⟩) 2 2] w fun e w' => Below w.heap.size w w' ∧ ∃ ao c, e = .returned (.tuple #[.slice ao 1 c, .int .i64 0]) ∧ EgsAt w' ao [⟨1, 0⟩] := by
  refine (reads_any SeeM.exA (some ⟨b, 0, none⟩) 2 w (Or.inr ⟨b, 0, rfl, h.lt, ?_⟩) (RunM.check_fits SeeM.exA_check) SeeM.exA_check (by decide)).mono ?_
  · intro k hk
    match k, hk with
    | 0, _ => exact ⟨h.cell rfl, h.cell rfl, h.cell rfl⟩
    | 1, _ => exact ⟨h.cell rfl, h.cell rfl, h.cell rfl⟩
  · rintro e w' ⟨hb, v, rfl, hown⟩
    rw [SeeM.exA_reads] at hown
    obtain ⟨ao, c, rfl, _, hat, _, _⟩ := egs_own 51 hown
    exact ⟨hb, ao, c, rfl, hat⟩
theorem egs_one (w : World) : EgsAt (w.alloc (.cells #[.int .i64 1, .int .i64 0] 51)) (some ⟨w.heap.size, 0, none⟩) [⟨1, 0⟩] := by
  have hb := Blk.new w [.int .i64 1, .int .i64 0] 51
  refine Or.inr ⟨_, 0, rfl, hb.lt, ?_⟩
  intro k hk
  match k, hk with
  | 0, _ => exact ⟨hb.cell rfl, hb.cell rfl⟩

set_option maxRecDepth 20000 in
set_option maxHeartbeats 16000000 in
theorem seeSerial_calls (l : List OpM) (ao : Option Addr) (cap : Nat) (w : World) (h : OpsAt w ao l) (hf : RunM.Fits l) (hcap : l.length ≤ cap) (hc2 : cap * 24 ≤ 140737488355328) :
    Calls Try.prog 6 #[.slice ao l.length cap] w fun e w' => e = .returned (.bool true) ∧ Below w.heap.size w w' := by
  have H := box h; have Hf := box hf
  have HSer := box (fun W (hb : Below w.heap.size w W) => serial_any l ao cap W (h.below hb (Nat.le_refl _)) hf hcap (by omega))
  have HCom := box (fun W (hb : Below w.heap.size w W) => ofCom_any l ao cap W (h.below hb (Nat.le_refl _)) (by omega))
  clear h hf hcap hc2
  go_enter Try.func6, Try.ntmps6
  go_wp2_with fail
  refine (op_any _ _ _ _).mono ?_
  rintro e w1 ⟨rfl, hb1⟩
  have HB1 := box hb1; clear hb1
  go_wp2_with fail
  refine (op_any _ _ _ _).mono ?_
  rintro e w2 ⟨rfl, hb2⟩
  have HB2 := box (below_tr HB1.out hb2); clear hb2 HB1
  go_wp2_with fail
  refine (reads_ex w2.heap.size _ (Blk.new w2 [.int .i64 0, .int .i64 2, .int .i64 1, .int .i64 1, .int .i64 1, .int .i64 1] _)).mono ?_
  rintro e w3 ⟨hb3, ro, rc, rfl, hat⟩
  have HB3 := box (below_tr (HB2.out.alloc HB2.out.size _) hb3)
  have HA := box hat
  clear hb3 hat HB2
  go_wp2_with fail
  refine (equalSeen_same [⟨1, 0⟩] ro _ rc 1 _ (HA.out.below ((Below.refl _ _).alloc (Nat.le_refl _) _) (Nat.le_refl _)) (egs_one w3) (by decide)).mono ?_
  rintro e w4 ⟨rfl, n4, rfl⟩
  have HB4 : Box (Below w.heap.size w ((w3.alloc (.cells #[.int .i64 1, .int .i64 0] 51)).drewN n4)) := ⟨below_tr (HB3.out.alloc HB3.out.size _) ⟨rfl, rfl, rfl, Nat.le_refl _, fun _ _ => rfl⟩⟩
  generalize (w3.alloc (.cells #[.int .i64 1, .int .i64 0] 51)).drewN n4 = W4 at *
  clear HA HB3
  obtain ⟨N, HN⟩ : ∃ N, Box (l.length = N) := ⟨_, ⟨rfl⟩⟩
  have HSer2 := box (HSer.out _ HB4.out)
  rw [HN.out] at HSer2 HCom ⊢
  go_wp2_with fail
  refine HSer2.out.mono ?_
  rintro e w5 ⟨hb5, ⟨hc, rfl⟩ | ⟨hc, ho, rfl⟩ | ⟨hc, r, v, ho, rfl, hown⟩⟩
  · have HB5 := box (below_tr HB4.out hb5)
    have g1 : (RunM.check l != 0) = true := by simpa using hc
    generalize RunM.check l = c at *
    clear hb5 hc HSer2 HSer
    go_wp2_with fail
    go_ret
    exact ⟨rfl, HB5.out⟩
  · have HB5 := box (below_tr HB4.out hb5)
    clear hb5 hc ho HSer2 HSer
    go_wp2_with fail
    go_ret
    exact ⟨rfl, HB5.out⟩
  have HB5 := box (below_tr HB4.out hb5)
  have Hc := box hc
  have hOk := GrM.order_ok (n := 12) ho
  have hsl12 : (RunM.serialOf l r).length ≤ 12 := by
    unfold RunM.serialOf
    rw [List.length_map]
    have := List.length_filter_le (fun t => RunM.endB l 3 t) r
    omega
  have HLaw := box (fun ha => SeeM.serial_law hc ho ha)
  have HNo := box (fun ha => SeeM.com_none hc ha)
  have hl := (RunM.check_ok hc).1
  rw [HN.out] at hl
  obtain ⟨so, sc, rfl, hz0, hsat, hz1, hz2⟩ := IntsAt.own hown
  have HSo := box hsat
  clear hb5 hc ho hOk hown hsat hz0 hz1 hz2 HSer2 HSer HB4
  obtain ⟨S, HSS⟩ : ∃ S, Box (RunM.serialOf l r = S) := ⟨_, ⟨rfl⟩⟩
  rw [HSS.out] at HLaw HSo hsl12 ⊢
  go_wp2_with fail
  refine (HCom.out _ HB5.out).mono ?_
  rintro e w6 ⟨v6, rfl, hown6, hb6⟩
  obtain ⟨mo, mc, rfl, hz0, hz1, hz2, hz3⟩ := OpsAt.own hown6
  have HB6 := box (below_tr HB5.out hb6)
  have HSo6 := box (HSo.out.below hb6 (Nat.le_refl _))
  clear hown6 hb6 hz0 hz1 hz2 hz3 HCom HSo
  obtain ⟨cl, Hcl⟩ : ∃ x, Box ((RunM.ofCom l).length = x) := ⟨_, ⟨rfl⟩⟩
  rw [Hcl.out]
  by_cases hcl : cl = N
  case neg =>
    have q : ((cl : Int) != (N : Int)) = true := by simpa using fun e : (cl : Int) = N => hcl (by omega)
    clear hcl
    go_wp2_with fail
    go_ret
    exact ⟨rfl, HB6.out⟩
  have hcom : RunM.ofCom l = l := SeeM.com_all (by rw [Hcl.out, HN.out, hcl])
  have q : ((cl : Int) != (N : Int)) = false := by simp [hcl]
  have HLw := box (HLaw.out hcom)
  have HNa := box (HNo.out hcom)
  clear hcl hcom HLaw HNo Hcl
  have HIt := box (inTurn_any l S ao so cap sc w6 (H.out.below HB6.out (Nat.le_refl _)) HSo6.out (by rw [HN.out]; exact hl) (by omega))
  rw [HN.out] at HIt
  go_wp2_with fail
  refine HIt.out.mono ?_
  rintro e w7 ⟨v7, rfl, hown7, hb7⟩
  obtain ⟨mo, mc, rfl, hz0, hmat, hz2, hz3⟩ := OpsAt.own hown7
  have HB7 := box (below_tr HB6.out hb7)
  have HM7 := box hmat
  clear hown7 hb7 hz0 hz2 hz3 HIt hmat HSo6
  obtain ⟨m, Hm⟩ : ∃ m, Box (StampM.inTurn l S = m) := ⟨_, ⟨rfl⟩⟩
  rw [Hm.out] at HLw HM7 ⊢
  have hm200 := (RunM.check_ok HLw.out.1).1
  have HmF := box (RunM.check_fits HLw.out.1)
  have HAk := box (alike_any l m ao mo cap mc w7 (H.out.below HB7.out (Nat.le_refl _)) HM7.out Hf.out HmF.out Hc.out HLw.out.1 HNa.out HLw.out.2.1)
  rw [HLw.out.2.2] at HAk
  have HLa := box (fun W (hb : Below w.heap.size w W) => last_any l ao cap W (H.out.below hb (Nat.le_refl _)) Hf.out Hc.out HNa.out)
  have HLb := box (fun W (hb : Below w7.heap.size w7 W) => last_any m mo mc W (HM7.out.below hb (Nat.le_refl _)) HmF.out HLw.out.1 HLw.out.2.1)
  have HLL := box (fun (it : Nat) (hi : it < 20) => SeeM.last_law Hc.out HLw.out.1 HLw.out.2.2 hi)
  obtain ⟨M, HMM⟩ : ∃ M, Box (m.length = M) := ⟨_, ⟨rfl⟩⟩
  rw [HMM.out] at HAk HLb hm200 ⊢
  rw [HN.out] at HAk HLa
  go_wp2_with fail
  refine HAk.out.mono ?_
  rintro e w8 ⟨rfl, hb8⟩
  have HB8 := box hb8
  clear hb8 HAk
  go_wp2_with fail
  refine (HLa.out w8 (below_tr HB7.out HB8.out)).mono ?_
  rintro e w9 ⟨rfl, hb9⟩
  have HB9 := box (below_tr HB8.out hb9)
  clear hb9 HB8 HLa
  have hsz0 : ((Try.prog.info? 52).map (·.size)) = some 20 := by kernel_rfl
  have hsz : ∀ l : List OpM, ((Try.prog.info? 52).map (·.size)) = some (SeeM.lastVals l).toArray.size := fun l => by
    have : (SeeM.lastVals l).toArray.size = 20 := by rw [List.size_toArray]; exact Tab_len _ _
    rw [this]; exact hsz0
  have hone : ∀ l, (SeeM.lastVals l).toArray.all (·.oneCell') = true := fun l => all_oneCell_toArray (by
    intro u hu
    unfold SeeM.lastVals Tab at hu
    obtain ⟨i, _, rfl⟩ := List.mem_map.1 hu
    rfl)
  have hold : ∀ l (cs : Array Value), cs.size = 20 → cs.size = (SeeM.lastVals l).toArray.size := fun l cs h => by
    have : (SeeM.lastVals l).toArray.size = 20 := by rw [List.size_toArray]; exact Tab_len _ _
    rw [this, h]
  have Hsz := box hsz; have Hone := box hone; have Hold := box hold
  clear hsz hsz0 hone hold
  obtain ⟨LA, HLA⟩ : ∃ x, Box (SeeM.lastVals l = x) := ⟨_, ⟨rfl⟩⟩
  obtain ⟨LB, HLB⟩ : ∃ x, Box (SeeM.lastVals m = x) := ⟨_, ⟨rfl⟩⟩
  have HszA := box (HLA.out ▸ Hsz.out l); have HoneA := box (HLA.out ▸ Hone.out l); have HoldA := box (HLA.out ▸ Hold.out l)
  have HszB := box (HLB.out ▸ Hsz.out m); have HoneB := box (HLB.out ▸ Hone.out m); have HoldB := box (HLB.out ▸ Hold.out m)
  rw [HLA.out]
  rw [HLB.out] at HLb
  go_upto_region 10 with (refine wpList_store_new rfl 52 (.tmp 10) (.tmp 58) rfl LA.toArray (by rfl) (by rfl) 52 _ HszA.out (HoldA.out _ rfl) HoneA.out ?_)
  refine name_world (fun W => Below w7.heap.size w7 W ∧ Blk W w9.heap.size 52 LA) ⟨HB9.out.alloc HB9.out.size _, Blk.new w9 LA _⟩ ?_
  rintro W10 ⟨hw10, hk10⟩
  have HW10 := box hw10; have HK10 := box hk10
  clear hw10 hk10 HB9
  generalize w9.heap.size = KA at *
  go_wp2_with fail
  refine (HLb.out W10 HW10.out).mono ?_
  rintro e w11 ⟨rfl, hb11⟩
  have HB11 := box (below_tr HW10.out hb11)
  have HK11 := box (HK10.out.after hb11)
  clear hb11 HW10 HK10 HLb
  go_upto_region 11 with (refine wpList_store_new rfl 52 (.tmp 12) (.tmp 63) rfl LB.toArray (by rfl) (by rfl) 52 _ HszB.out (HoldB.out _ rfl) HoneB.out ?_)
  refine name_world (fun W => Below w7.heap.size w7 W ∧ Blk W KA 52 LA ∧ Blk W w11.heap.size 52 LB) ⟨HB11.out.alloc HB11.out.size _, HK11.out.alloc _, Blk.new w11 LB _⟩ ?_
  rintro W ⟨hw, hka, hkb⟩
  have HW := box hw
  rw [← HLA.out] at hka
  rw [← HLB.out] at hkb
  have HKA := box hka; have HKB := box hkb
  clear hw hka hkb HB11 HK11
  generalize w11.heap.size = KB at *
  have HL2 := box (H.out.below (below_tr HB7.out HW.out) (Nat.le_refl _))
  have HM2 := box (HM7.out.below HW.out (Nat.le_refl _))
  have HBW := box (below_tr HB7.out HW.out)
  clear HszA HoneA HoldA HszB HoneB HoldB Hsz Hone Hold HM7 HW
  go_wp2_with fail
  go_loopw [65] (fun t65 wr => ∃ k n : Nat, wr = W.drewN n ∧ k ≤ 20 ∧ t65 = .int .i64 (k : Int)) (fun t65 _ => 20 - (RowKit.intOf t65).toNat)
  case atStart => exact ⟨0, 0, rfl, by omega, rfl⟩
  case round =>
    obtain ⟨k, n0, rfl, hk, rfl⟩ := hrel
    by_cases hkt : k < 20
    · have hki : (k : Int) < 20 := by omega
      have ka := HKA.out.tabCell hkt
      have kb := HKB.out.tabCell hkt
      rcases HLL.out k hkt with ⟨e1, e2⟩ | ⟨i, j, hi, hj, e1, e2, he⟩
      · rw [e1] at ka
        rw [e2] at kb
        clear e1 e2
        go_wp2_with fail
        go_quiet (fail)
        go_wp2_with fail
        go_roundw
        case rel => exact ⟨k + 1, n0 + nq, rfl, hkt, by go_num⟩
        case measure => simp [RowKit.intOf]; omega
      · rw [e1] at ka
        rw [e2] at kb
        obtain ⟨lb, loff, rfl, _, lrow⟩ := HL2.out.resolve_left (by intro h; rw [h] at hi; simp at hi)
        obtain ⟨mb, moff, rfl, _, mrow⟩ := HM2.out.resolve_left (by intro h; rw [h] at hj; simp at hj)
        have lc := (lrow i hi).1
        have mcl := (mrow j hj).1
        rw [getElem!_pos l i hi, getElem!_pos m j hj] at he
        rw [← he] at mcl
        rw [HN.out] at hi
        rw [HMM.out] at hj
        have hii : (i : Int) < (N : Int) := by omega
        have hji : (j : Int) < (M : Int) := by omega
        have hi0 : ¬ (i : Int) < 0 := by omega
        have hj0 : ¬ (j : Int) < 0 := by omega
        have hi1 : (0 : Int) ≤ (i : Int) := by omega
        generalize hxx : (l[i]'(by rw [HN.out]; exact hi)).tx = x at *
        clear lrow mrow e1 e2 he hxx
        go_wp2_with fail
        go_quiet (fail)
        go_wp2_with fail
        go_roundw
        case rel => exact ⟨k + 1, n0 + nq, rfl, hkt, by go_num⟩
        case measure => simp [RowKit.intOf]; omega
    · go_wp2_with fail
      go_ret
      exact ⟨rfl, below_tr HBW.out ⟨rfl, rfl, rfl, Nat.le_refl _, fun _ _ => rfl⟩⟩
namespace lawSeeSerial
open Go.ChangeShapes Go.WideShapes Go.ChangeAt Go.RowKit Go.ChangeMaps

set_option maxRecDepth 100000 in
theorem lifted (os : Os) (started : os.Started) (H : Type) (enc : TypeId × Value → H) :
    ReturnsInHanded {} Try.checked os 6 .any (Rows.seeSerialSpec.pre6 enc Try.prog Try.f6 [] false) (Rows.seeSerialSpec.post enc Try.prog Try.f6 false true false false) := by
  refine LawKit.law_lifted started (by kernel_rfl) Try.func6 rfl
    (fun ds h => by
      match ds, h with
      | [_], _ => rfl)
    rfl Try.underlying4 (by intro t ht; exact of_decide_eq_true (p := Try.prog.readableRec t = true ∧ t < Try.prog.types.size) (by revert t ht; decide +kernel))
    (ChangeSpec.witness6 (enc := enc) (C := Try.checked) false ⟨#[], #[.slice none 0 0], []⟩ 8 (by kernel_rfl) (by kernel_rfl) (by kernel_rfl) (by kernel_rfl)) ?_
  intro W base args ds ps hval hA hsz hlt hfz
  have hA' := hA
  rw [Try.params6] at hA hval
  obtain ⟨v0, vs0, d0, ds0, p0, q0, hargs, rfl, rfl, h0, r0⟩ := trodAll_cons hA
  obtain ⟨rfl, rfl, rfl⟩ := trodAll_nil r0
  obtain rfl : args = #[v0] := by cases args; simp_all
  obtain ⟨ao, cap, L, rfl, hnil, hat, hfits, hcap, hc2⟩ := open_ops (hval 0 _ _ rfl rfl) h0 (Open.weights_bound hsz (j := 0) (by rw [Try.params6]; rfl) rfl)
  refine (seeSerial_calls L ao cap W hat hfits hcap hc2).mono ?_
  rintro e W' ⟨rfl, hb⟩
  exact ⟨rfl, hb⟩

theorem proved : Rows.SeeSerialSaid :=
  OpenClaim.holds_of_wide 6 Try.f6 rfl rfl rfl rfl rfl rfl rfl ⟨rfl, rfl, rfl, rfl, rfl⟩ rfl rfl rfl rfl rfl (by kernel_rfl) Try.func6 (by kernel_rfl)
    (of_decide_eq_true (by kernel_rfl)) (by unfold Func.isWrapper; first | (rw [if_pos (by decide +kernel)]; kernel_rfl) | (rw [if_neg (by decide +kernel)]; exact ⟨rfl, rfl⟩))
    (fun os started H enc _ => lifted os started H enc)
end lawSeeSerial
end
end Go.Proofs.Ytnhhjjhhicmfpaa
