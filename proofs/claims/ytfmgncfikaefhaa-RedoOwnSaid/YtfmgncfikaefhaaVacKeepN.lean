/- vac.Keep: what is kept, in memory of its own. -/
import Derived.Test.YtfmgncfikaefhaaVacA
import Derived.Test.YtfmgncfikaefhaaIntClone
import Derived.Deep.DeepMust
import Derived.Lib.LazyBuf
import Derived.Maps.OwnOps
import Derived.Maps.OwnSet
namespace Go.Proofs.Ytfmgncfikaefhaa
open Go.RowKit Go.Lib Go.Maps

theorem VacM.law : Keyed Try.prog 3 := int_keyed Try.underlying3
theorem VacM.zero (w : World) : (zeroValue 3).run Try.prog w = .ok (.int .i64 0) w := by kernel_rfl
theorem VacM.infoI : (Try.prog.info? 3).map (fun i => (i.zero, i.size, i.bytes)) = some (some (.int .i64 0), 1, 8) := by kernel_rfl
theorem VacM.infoV : (Try.prog.info? 42).map (fun i => (i.zero, i.size, i.bytes)) = some (some (.agg #[.int .i64 0, .string ⟨#[]⟩]), 2, 24) := by kernel_rfl
theorem VacM.own_below {N : Nat} {w w' : World} {k : TypeId} {R : Value → Option (DataW Unit × List MemPlace)} {b n : Nat} {D : DataW Unit} (h : w.ownsMap Try.prog k R b n D) (hb : Below N w w') (hN : b < N) : w'.ownsMap Try.prog k R b n D := by
  obtain ⟨es, clock, hbk, F, hs, hD⟩ := h
  exact ⟨es, clock, (hb.block b hN).trans hbk, F, hs, hD⟩
theorem VacM.look {w : World} {b n : Nat} {D : DataW Unit} {t : Int} {f : Nat} (h : w.ownsMap Try.prog 3 (plainElem (H := Unit) Try.prog 3) b n D) (hkey : keyOf Try.prog 3 (.int .i64 t) = some (.int .i64 t)) (hat : D.atKey (.int .i64 t) (.lit (.int .i64 0)) = .lit (.int .i64 (f : Int))) :
    (Instr.lookup 96 (.map (some b)) (.int .i64 t) false).run Try.prog w = .ok (.int .i64 (f : Int)) w := by
  obtain ⟨c, hrun, hc, _⟩ := h.lookup_int VacM.law Try.underlying96 Try.underlying3 (VacM.zero _) hkey
  rw [hat] at hc
  have hc2 : (f : Int) = c := by simpa using hc
  rw [hc2]; exact hrun

theorem IntsAt.grown {w w' : World} {ao : Option Addr} {l : List Int} {row : Option Nat} (h : IntsAt w ao l) (hg : w.grownBy w' row) (hr : ∀ b off, ao = some ⟨b, off, none⟩ → row ≠ some b) : IntsAt w' ao l := by
  rcases h with h | ⟨b, off, h1, h2, h3⟩
  · exact Or.inl h
  · exact Or.inr ⟨b, off, h1, Nat.lt_of_lt_of_le h2 hg.size, fun k hk => hg.cell (h3 k hk) (fun e => hr b off h1 e.symm)⟩
theorem below_grown {w w' : World} (h : Below w.heap.size w w') : w.grownBy w' none := ⟨h.os, h.tape, h.output, h.size, fun k hk _ => h.block k hk⟩
/-- The places that are seen from the times S. -/
def VacM.places (l : List (Int × ByteArray)) (S : List Int) : List Int := S.map fun s => (VacM.cnt l s : Int) - 1
theorem VacM.D_succ (xs : List Int) (i : Nat) (h : i < xs.length) : VacM.D xs (i + 1) = (VacM.D xs i).put (.int .i64 xs[i]) (.lit (.int .i64 (((xs.take i).count xs[i] : Nat) + 1 : Int))) := by
  show (if h : i < xs.length then _ else _) = _
  rw [dif_pos h]
theorem VacM.hit_count {l : List (Int × ByteArray)} (h : l.Pairwise (fun u v => u.1 < v.1)) (S : List Int) {i : Nat} (hi : i < l.length) : VacM.hit l S l[i] = decide (0 < (VacM.places l S).count (i : Int)) := by
  rw [Bool.eq_iff_iff, VacM.hit_cnt h S hi, decide_eq_true_iff, VacM.count_pos]
  simp [VacM.places]

def VacM.KeepPost (B : Nat) (l : List (Int × ByteArray)) (act : List Int) (now : Int) (e : Ending) (w' : World) : Prop :=
  ∃ (ko : Option Addr) (kc : Nat) (m : List (Int × ByteArray)), e = .returned (.tuple #[.slice ko m.length kc, .int .i64 (VacM.chk l act now)]) ∧ m = (if VacM.chk l act now = 0 then VacM.keep l (act ++ [now]) else []) ∧ VersAt w' ko m ∧ m.length ≤ kc ∧ (ko = none → kc = 0) ∧ ∀ b off r, ko = some ⟨b, off, r⟩ → B ≤ b

set_option maxRecDepth 20000 in
set_option maxHeartbeats 8000000 in
theorem vacKeep_any (l : List (Int × ByteArray)) (act : List Int) (now : Int) (ao bo : Option Addr) (cap cap' : Nat) (w : World) (h : VersAt w ao l) (h' : IntsAt w bo act) (hn : l.length ≤ 9000000000000) (hm : act.length ≤ 900000000000000000)
    (hnil : bo = none → cap' = 0) :
    Calls Try.prog 17 #[.slice ao l.length cap, .slice bo act.length cap', .int .i64 now] w fun e w' => VacM.KeepPost w.heap.size l act now e w' ∧ Below w.heap.size w w' := by
  have H := box h
  have H' := box h'
  have HC := box (fun w h h' => vacCheck_any l act now ao bo cap cap' w h h' hn hm)
  clear h h'
  have hmm := @run_makeMap Try.prog
  go_enter Try.func17, Try.ntmps17
  go_wp2_with fail
  refine (HC.out _ H.out H'.out).mono ?_
  rintro e w1 ⟨rfl, hb1⟩
  have HB1 := box hb1; clear hb1 HC
  by_cases hc : VacM.chk l act now = 0
  case neg =>
    have HP : Box (VacM.KeepPost w.heap.size l act now (.returned (.tuple #[.slice none 0 0, .int .i64 (VacM.chk l act now)])) w1) := ⟨⟨none, 0, [], rfl, by rw [if_neg hc], Or.inl rfl, Nat.le_refl _, fun _ => rfl, fun _ _ _ e => by cases e⟩⟩
    have q1 : (VacM.chk l act now == 0) = false := by simpa using hc
    have q2 : (VacM.chk l act now != 0) = true := by simpa using hc
    clear hc
    generalize VacM.chk l act now = c at *
    go_wp2_with fail
    refine bodyPost_ret (by simp [results, Try.results17, go_sem]) rfl ⟨HP.out, HB1.out⟩
  have HOK := box (VacM.chk_iff.1 hc)
  have HPost : Box (∀ w' ko kc m, m = VacM.keep l (act ++ [now]) → VersAt w' ko m → m.length ≤ kc → (ko = none → kc = 0) → (∀ b off r, ko = some ⟨b, off, r⟩ → w.heap.size ≤ b) → VacM.KeepPost w.heap.size l act now (.returned (.tuple #[.slice ko m.length kc, .int .i64 0])) w') := ⟨fun w' ko kc m h1 h2 h3 h4 h5 => ⟨ko, kc, m, by rw [hc], by rw [if_pos hc]; exact h1, h2, h3, h4, h5⟩⟩
  rw [hc]
  clear hc
  have hlen := HOK.out.len
  have halen := HOK.out.alen
  go_wp2_with fail
  obtain ⟨Bm, HBm⟩ : ∃ Bm, Box (w1.heap.size = Bm) := ⟨_, ⟨rfl⟩⟩
  rw [HBm.out]
  have HBa := box (HB1.out.alloc HB1.out.size (.map #[] 0))
  have HMa : Box ((w1.alloc (.map #[] 0)).ownsMap Try.prog 3 (plainElem (H := Unit) Try.prog 3) Bm 0 (.map [])) := ⟨by rw [← HBm.out]; exact World.ownsMap_made _ _ _ _⟩
  have hsa : (w1.alloc (.map #[] 0)).heap.size = Bm + 1 := by rw [World.size_alloc, HBm.out]
  have hBmw : w.heap.size ≤ Bm := by have := HB1.out.size; have := HBm.out; omega
  generalize w1.alloc (.map #[] 0) = wa at *
  refine (cloneInts_any act bo cap' _ (H'.out.below HBa.out (Nat.le_refl _)) hnil (by omega)).mono ?_
  rintro e w2 ⟨⟨v, rfl, hown⟩, hb2⟩
  rw [hsa] at hown
  have HB2 := box (below_tr HBa.out hb2)
  have HM2 := box (VacM.own_below HMa.out hb2 (by omega))
  have hs2 := hb2.size
  clear hb2
  obtain ⟨i0, hi0, hz0, hz1, hz2⟩ := info_parts VacM.infoI
  have hown2 := hown.alloc (.cells #[.int .i64 now] 3)
  go_wp2_with (at_builtin; go_must (refine wpList_append_own _ rfl _ _ 40 rfl (Bm + 1) 3 i0 _ 1 8 Try.underlying40 hi0 hz0 hz1 hz2 rfl (by decide) _ _ _ rfl hown2 ⟨w2.heap.size, 0, none⟩ 1 1 [.int .i64 now] rfl rfl (cells_new w2 [.int .i64 now] 3) (by simp [Value.oneCell']) (by unfold maxLen; omega) (by omega) (by simp; omega) ?_))
  intro v' w3 hown3 hgrow _
  have hb9 : ∀ j, v.ownBlock = some j → Bm + 1 ≤ j := fun j hj => (hown.lt j hj).1
  have HB3 := box ((HB2.out.alloc HB2.out.size (.cells #[.int .i64 now] 3)).grown hgrow (by simp; omega) (fun j hj => by have := hb9 j hj; omega))
  have HM3 := box ((HM2.out.alloc (.cells #[.int .i64 now] 3)).kept hgrow (fun e => by have := hb9 _ e.symm; omega))
  have hs3 := hgrow.size
  obtain ⟨S, HS⟩ : ∃ S, Box (act ++ [now] = S) := ⟨_, ⟨rfl⟩⟩
  have hSl : S.length = act.length + 1 := by rw [← HS.out]; simp
  have hown4 : w3.ownsRow (Bm + 1) 3 1 v' S.length (intVals S) := by
    rw [← HS.out, intVals_append, List.length_append]; exact hown3
  obtain ⟨so, sc, rfl, _, hat, _, hsc⟩ := IntsAt.own hown4
  have HS3 := box hat
  have hbs : ∀ j, (Value.slice so S.length sc).ownBlock = some j → Bm < j := fun j hj => by have := (hown4.lt j hj).1; omega
  rw [World.size_alloc] at hs3
  clear hown hown2 hown3 hown4 hgrow hb9 hat
  have Hso : Box (∀ b off, so = some ⟨b, off, none⟩ → Bm < b) := ⟨fun b off e => by subst e; exact (hbs b rfl)⟩
  clear hbs
  obtain ⟨XS, HXS⟩ : ∃ XS, Box (VacM.places l S = XS) := ⟨_, ⟨rfl⟩⟩
  have hXl : XS.length = S.length := by rw [← HXS.out]; simp [VacM.places]
  have Hat0 := box (fun w (h : VersAt w ao l) s => vacAt_any l s ao cap w h (by omega) HOK.out.inc)
  have hBw3 : Bm < w3.heap.size := by omega
  have hS13 : S.length ≤ 13 := by omega
  clear hSl
  go_wp2_with fail
  go_loopw [29] (fun t29 wr => ∃ i : Nat, i ≤ S.length ∧ t29 = .int .i64 (i : Int) ∧ Box (wr.ownsMap Try.prog 3 (plainElem (H := Unit) Try.prog 3) Bm i (VacM.D XS i)) ∧ Box (Below w.heap.size w wr) ∧ Box (IntsAt wr so S) ∧ Box (Bm < wr.heap.size)) (fun t29 _ => S.length - (intOf t29).toNat)
  case atStart => exact ⟨0, Nat.zero_le _, rfl, HM3, HB3, HS3, ⟨hBw3⟩⟩
  case round =>
    obtain ⟨i, hi, rfl, HMr, Hbr, HSr, HBr⟩ := hrel
    by_cases hlt : i < S.length
    case pos =>
      obtain ⟨b, off, rfl, hb, hrow⟩ := (HSr.out.resolve_left (by intro h; rw [h] at hlt; simp at hlt))
      have hc0 := hrow i hlt
      have hx0 : XS[i]? = some ((VacM.cnt l S[i] : Int) - 1) := by rw [← HXS.out]; simp [VacM.places, hlt]
      have hix : i < XS.length := by omega
      have hx : XS[i] = (VacM.cnt l S[i] : Int) - 1 := by rw [List.getElem?_eq_getElem hix] at hx0; exact Option.some.inj hx0
      have HD := box (VacM.D_succ XS i hix)
      have hat := VacM.at_ XS XS[i] i (by omega)
      have hcl := VacM.cnt_le l S[i]
      have hcount : (XS.take i).count XS[i] ≤ 13 := by
        have h1 := @List.count_le_length _ _ XS[i] (XS.take i)
        rw [List.length_take] at h1
        omega
      have Hcall := Hat0.out wr (H.out.below Hbr.out (Nat.le_refl _)) S[i]
      rw [hx] at HD hat hcount
      clear hrow hx hx0
      generalize (XS.take i).count ((VacM.cnt l S[i] : Int) - 1) = q at *
      generalize VacM.cnt l S[i] = c at *
      generalize S[i] = s at *
      have hkey : keyOf Try.prog 3 (.int .i64 ((c : Int) - 1)) = some (.int .i64 ((c : Int) - 1)) := keyOf_int_mk Try.underlying3 (WalkArith.wf_i64 (by omega))
      have HHat := box hat
      have HCall := box Hcall
      clear hat Hcall
      go_wp2_with fail
      refine HCall.out.mono ?_
      rintro e w5 ⟨rfl, hb5⟩
      have HM5 := box (VacM.own_below HMr.out hb5 HBr.out)
      have HB5 := box (below_tr Hbr.out hb5)
      have HS5 := box (HSr.out.below hb5 (Nat.le_refl _))
      have hs5 := hb5.size
      have hrun := VacM.look HM5.out hkey HHat.out
      clear hb5
      have hq1 : IntKind.i64.wrap ((q : Int) + 1) = (q : Int) + 1 := IntWalk.i64_in _ (by omega)
      go_wp2_with (at_mapUpdate; go_must (refine wpList_mapUpdate_own _ rfl _ _ _ 96 rfl 3 3 VacM.law Try.underlying96 _ Bm i _ rfl HM5.out (by unfold maxLen; omega) _ _ _ rfl rfl hkey _ [] (plainElem_int Try.underlying3 (WalkArith.wf_i64 (by omega))) ?_))
      intro w7 hown7 hgrow7
      rw [← HD.out] at hown7
      have hs7 := hgrow7.size
      have HM7 := box hown7
      have HB7 := box (HB5.out.grown hgrow7 HB5.out.size (fun j hj => by injection hj with hj; omega))
      have HS7 := box (HS5.out.grown hgrow7 (fun b' off' e hr => by have := Hso.out b' off' e; injection hr with hr; omega))
      clear hown7 hgrow7
      go_wp2_with fail
      go_roundw
      case rel => exact ⟨i + 1, hlt, by go_num, HM7, HB7, HS7, ⟨by have := HBr.out; omega⟩⟩
      case measure => simp [intOf]; omega
    case neg =>
      have hiS : i = S.length := by omega
      subst hiS
      have Hhit : Box (∀ k (h : k < l.length), VacM.hit l S l[k] = decide (0 < XS.count (k : Int))) := ⟨fun k h => by rw [← HXS.out]; exact VacM.hit_count HOK.out.inc S h⟩
      have HatX : Box (∀ t : Int, (VacM.D XS S.length).atKey (.int .i64 t) (.lit (.int .i64 0)) = .lit (.int .i64 (XS.count t : Nat))) := ⟨fun t => by
        have h1 := VacM.at_ XS t S.length (by omega)
        rw [List.take_of_length_le (by omega)] at h1
        exact h1⟩
      have hXc : ∀ t : Int, XS.count t ≤ 13 := fun t => by
        have h1 := @List.count_le_length _ _ t XS
        omega
      have HXc := box hXc
      clear hXc hlt hi
      obtain ⟨j0, hj0, hzv0, hzv1, hzv2⟩ := info_parts VacM.infoV
      go_wp2_with fail
      go_loopw [12, 42] (fun t12 t42 wx => ∃ k : Nat, k ≤ l.length ∧ t42 = .int .i64 (k : Int) ∧ Box (wx.ownsMap Try.prog 3 (plainElem (H := Unit) Try.prog 3) Bm S.length (VacM.D XS S.length)) ∧ Box (Below w.heap.size w wx) ∧ Box (Bm < wx.heap.size) ∧ Box (wx.ownsRow (Bm + 1) 42 2 t12 ((l.take k).filter (VacM.hit l S)).length (vrVals ((l.take k).filter (VacM.hit l S))))) (fun _ t42 _ => l.length - (intOf t42).toNat)
      case atStart => exact ⟨0, Nat.zero_le _, rfl, HMr, Hbr, HBr, ⟨by simpa [vrVals] using World.ownsRow_nil _ _ _ _⟩⟩
      case round =>
        obtain ⟨k, hk, rfl, HMx, Hbx, HBx, HO⟩ := hrel
        by_cases hlt : k < l.length
        case neg =>
          have hkl : k = l.length := by omega
          have hO := HO.out
          rw [List.take_of_length_le (by omega)] at hO
          obtain ⟨ko, kc, rfl, _, hat, hnil2, hcap2⟩ := VersAt.own hO
          have hnew : ∀ b off r, ko = some ⟨b, off, r⟩ → w.heap.size ≤ b := fun b off r e => by
            subst e
            have := (hO.lt b rfl).1
            omega
          have HP := box (HPost.out wr ko kc ((l.filter (VacM.hit l S))) (by rw [HS.out]; rfl) hat hcap2 hnil2 hnew)
          clear hat hO HO hnew
          generalize l.filter (VacM.hit l S) = m at *
          subst hkl
          go_wp2_with fail
          refine bodyPost_ret (by simp [results, Try.results17, go_sem]) rfl ⟨HP.out, Hbx.out⟩
        obtain ⟨b, off, rfl, hb, hrow⟩ := ((H.out.below Hbx.out (Nat.le_refl _)).resolve_left (by intro h; rw [h] at hlt; simp at hlt))
        obtain ⟨hc0, hc1⟩ := hrow k hlt
        have HN : Box ((l.take (k + 1)).filter (VacM.hit l S) = (l.take k).filter (VacM.hit l S) ++ (if 0 < XS.count (k : Int) then [l[k]] else [])) := ⟨by
          rw [List.take_succ_eq_append_getElem hlt, List.filter_append]
          congr 1
          rw [List.filter_cons, Hhit.out k hlt]
          by_cases e : 0 < XS.count (k : Int) <;> simp [e]⟩
        have hml : ((l.take k).filter (VacM.hit l S)).length ≤ 100 := by
          have h1 := List.length_filter_le (VacM.hit l S) (l.take k)
          rw [List.length_take] at h1
          omega
        have Hatk := box (HatX.out (k : Int))
        have hxk := HXc.out (k : Int)
        have hkey : keyOf Try.prog 3 (.int .i64 (k : Int)) = some (.int .i64 (k : Int)) := keyOf_int_mk Try.underlying3 (WalkArith.wf_i64 (by omega))
        have hrun0 := VacM.look HMx.out hkey Hatk.out
        clear hrow hrun0
        generalize XS.count (k : Int) = q at *
        generalize l[k] = x at *
        obtain ⟨xa, xt⟩ := x
        simp only at hc0 hc1
        have hbs := Hbx.out.size
        go_upto_region 14 with (fail)
        refine name_world (fun W => Below wr.heap.size wr W ∧ Blk W wr.heap.size 42 [.int .i64 xa, .string xt] ∧ W.ownsMap Try.prog 3 (plainElem (H := Unit) Try.prog 3) Bm S.length (VacM.D XS S.length) ∧ W.ownsRow (Bm + 1) 42 2 u12 ((l.take k).filter (VacM.hit l S)).length (vrVals ((l.take k).filter (VacM.hit l S)))) ⟨(Below.refl _ _).alloc (Nat.le_refl _) _, Blk.new _ _ _, HMx.out.alloc _, HO.out.alloc _⟩ ?_
        rintro W ⟨hbW, hkW, hmW, hoW⟩
        have HbW := box (Hbx.out.trans (hbW.mono hbs))
        have HMW := box hmW
        have HOW := box hoW
        have HKW := box hkW
        have y0 := hkW.cell (i := 0) rfl
        have y1 := hkW.cell (i := 1) rfl
        have hsW := hbW.size
        have hBW : Bm < W.heap.size := by have := HBx.out; omega
        have hrun := VacM.look hmW hkey Hatk.out
        obtain ⟨B, HBb⟩ : ∃ B, Box (wr.heap.size = B) := ⟨_, ⟨rfl⟩⟩
        rw [HBb.out] at y0 y1 HKW ⊢
        clear hbW hmW hoW hkW hc0 hc1 HO HMx hbs
        by_cases hq : 0 < q
        case neg =>
          rw [if_neg hq, List.append_nil] at HN
          have hq0 : q = 0 := by omega
          subst hq0
          clear hq
          go_wp2_with fail
          go_roundw
          case rel => exact ⟨k + 1, hlt, by go_num, HMW, HbW, ⟨hBW⟩, by rw [HN.out]; exact HOW⟩
          case measure => simp [intOf]; omega
        rw [if_pos hq] at HN
        have hown2 := HOW.out.alloc (.cells #[.int .i64 xa, .string xt] 42)
        obtain ⟨F, HF⟩ : ∃ F, Box ((l.take k).filter (VacM.hit l S) = F) := ⟨_, ⟨rfl⟩⟩
        rw [HF.out] at hown2 hml
        go_wp2_with (at_builtin; go_must (refine wpList_append_own _ rfl _ _ 39 rfl (Bm + 1) 42 j0 _ 2 24 Try.underlying39 hj0 hzv0 hzv1 hzv2 rfl (by decide) _ _ _ rfl hown2 ⟨W.heap.size, 0, none⟩ 1 1 [.int .i64 xa, .string xt] rfl rfl (cells_new W [.int .i64 xa, .string xt] 42) (by simp [Value.oneCell']) (by unfold maxLen; omega) (by omega) (by simp; omega) ?_))
        intro v' w9 hown3 hgrow _
        have hb9 : ∀ j, (u12 : Value).ownBlock = some j → Bm + 1 ≤ j := fun j hj => (HOW.out.lt j hj).1
        have HB9 := box ((HbW.out.alloc HbW.out.size (.cells #[.int .i64 xa, .string xt] 42)).grown hgrow (by have := HbW.out.size; simp; omega) (fun j hj => by have := hb9 j hj; omega))
        have HM9 := box ((HMW.out.alloc (.cells #[.int .i64 xa, .string xt] 42)).kept hgrow (fun e => by have := hb9 _ e.symm; omega))
        have hs9 := hgrow.size
        rw [World.size_alloc] at hs9
        have HO9 := box hown3
        clear hown3 hgrow hown2 hb9 y0 y1 hrun
        go_wp2_with fail
        go_roundw
        case rel =>
          refine ⟨k + 1, hlt, by go_num, HM9, HB9, ⟨by omega⟩, ⟨?_⟩⟩
          rw [HN.out, HF.out, vrVals_append, List.length_append]
          exact HO9.out
        case measure => simp [intOf]; omega
end Go.Proofs.Ytfmgncfikaefhaa
