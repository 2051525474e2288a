/- TwoEnds is proved for every input: no condition stands ahead of it. -/
import Derived.Test.YtnnkejolfhhmlaaLawKit
import Derived.Test.YtnnkejolfhhmlaaTwoO
import Derived.Test.YtnnkejolfhhmlaaOp
import Derived.Test.YtnnkejolfhhmlaaSlOps
import Derived.Test.YtnnkejolfhhmlaaIntEq
import Derived.Test.YtnnkejolfhhmlaaOpsOpen
namespace Go.Proofs.Ytnnkejolfhhmlaa
section
open Go.RowKit Go.Lib

open TwoM in
theorem two_exL (b cap : Nat) (w : World) (h : Blk w b 30 [.int .i64 0, .int .i64 2, .int .i64 1, .int .i64 1, .int .i64 1, .int .i64 1]) :
    Calls Try.prog 5 #[.slice (some ⟨b, 0, none⟩) 2 cap] w fun e w' => Below w.heap.size w w' ∧ ∃ ao an bo bn co c1 c2 c3, e = .returned (.tuple #[.agg #[.slice ao an c1, .slice bo bn c2, .slice co 1 c3], .int .i64 0]) ∧ IntsAt w' co [1] := by
  refine (play_o exL (some ⟨b, 0, none⟩) cap w (Or.inr ⟨b, 0, rfl, h.lt, ?_⟩) ⟨by decide, by decide⟩).mono ?_
  · intro k hk
    match k, hk with
    | 0, _ => exact ⟨h.cell rfl, h.cell rfl, h.cell rfl⟩
    | 1, _ => exact ⟨h.cell rfl, h.cell rfl, h.cell rfl⟩
  · rintro e w' ⟨hb, ⟨hc, _⟩ | ⟨_, s, ao, bo, co, c1, c2, c3, ht, _, _, rfl, h1, _, h2, h3⟩⟩
    · exact absurd (by decide) hc
    · rw [exL_is ht] at h3 ⊢
      exact ⟨hb, ao, _, bo, _, co, c1, c2, c3, rfl, h3⟩
theorem twoEnds_f (x : OpM) (X : Nat) (o : OpM) (w : World) (h : Blk w X 30 [.int .i64 o.tx, .int .i64 o.kind, .int .i64 o.item]) :
    Calls Try.prog 13 #[.agg #[.int .i64 x.tx, .int .i64 x.kind, .int .i64 x.item], .pointer (some ⟨X, 0, none⟩)] w fun e w' => e = .returned (.bool ((x.tx == o.tx) && decide (3 ≤ x.kind))) ∧ Below w.heap.size w w' := by
  obtain ⟨x0, x1, x2⟩ := x
  obtain ⟨o0, o1, o2⟩ := o
  dsimp only at h ⊢
  have k0 := h.cell (i := 0) rfl
  have hX := h.lt
  have HB : Box (Below w.heap.size w (w.alloc (.cells #[.int .i64 x0, .int .i64 x1, .int .i64 x2] 30))) := ⟨(Below.refl _ _).alloc (Nat.le_refl _) _⟩
  cases e0 : (x0 == o0) with
  | false =>
    go_enter Try.func13, Try.ntmps13
    go_wp2_with fail
    go_ret
    exact ⟨by simp, HB.out⟩
  | true =>
    obtain ⟨p, hp⟩ : ∃ p, decide (3 ≤ x1) = p := ⟨_, rfl⟩
    rw [hp]
    go_enter Try.func13, Try.ntmps13
    go_wp2_with fail
    go_ret
    exact ⟨by simp, HB.out⟩

open TwoM in
set_option maxRecDepth 20000 in
set_option maxHeartbeats 8000000 in
theorem twoEnds_calls (l : List OpM) (ao : Option Addr) (cap : Nat) (w : World) (h : OpsAt w ao l) (hf : RunM.Fits l) :
    Calls Try.prog 4 #[.slice ao l.length cap] w fun e w' => e = .returned (.bool true) ∧ Below w.heap.size w w' := by
  have H := box h; have Hf := box hf
  have hfl := hf.1
  clear h hf
  obtain ⟨N, HN⟩ : ∃ x, Box (l.length = x) := ⟨_, ⟨rfl⟩⟩
  rw [HN.out] at hfl ⊢
  go_enter Try.func4, Try.ntmps4
  go_wp2_with fail
  refine (op_any _ _ _ _).mono ?_
  rintro e w1 ⟨rfl, hb1⟩
  have HB1 := box hb1; clear hb1
  go_wp2_with fail
  refine (op_any _ _ _ _).mono ?_
  rintro e w2 ⟨rfl, hb2⟩
  have HB2 := box (below_tr HB1.out hb2); clear hb2
  go_wp2_with fail
  refine (two_exL w2.heap.size 2 _ (Blk.new w2 [.int .i64 0, .int .i64 2, .int .i64 1, .int .i64 1, .int .i64 1, .int .i64 1] _)).mono ?_
  rintro e w3 ⟨hb3, ro, rn, bo, bn, co, c1, c2, c3, rfl, hat⟩
  have HB3 := box (below_tr (HB2.out.alloc HB2.out.size _) hb3)
  have HA := box hat
  clear hb3 hat
  have hs3 := HB3.out.size
  go_upto_region 2 with (fail)
  refine name_world (fun W => Below w.heap.size w W ∧ IntsAt W co [1] ∧ Blk W w3.heap.size 25 [.slice ro rn c1, .slice bo bn c2, .slice co 1 c3]) ⟨HB3.out.alloc hs3 _, HA.out.below ((Below.refl _ _).alloc (Nat.le_refl _) _) (Nat.le_refl _), Blk.new _ _ _⟩ ?_
  rintro W ⟨hbW, haW, hkW⟩
  have cc2 := hkW.cell (i := 2) rfl
  have HW := box hbW; have HA4 := box haW
  clear hbW haW hkW HB3 HA hs3
  generalize w3.heap.size = B at *
  go_wp2_with fail
  refine (equalInts_same [1] co _ c3 1 _ (HA4.out.below ((Below.refl _ _).alloc (Nat.le_refl _) _) (Nat.le_refl _)) (Or.inr ⟨W.heap.size, 0, rfl, by simp, fun k hk => by
    rw [Nat.zero_add]
    exact (Blk.new W (intVals [1]) 3).cell (intVals_get hk)⟩) (by decide)).mono ?_
  rintro e w4 ⟨rfl, n4, rfl⟩
  have HB4 : Box (Below w.heap.size w ((W.alloc (.cells #[.int .i64 1] 3)).drewN n4)) := ⟨below_tr (HW.out.alloc HW.out.size _) ⟨rfl, rfl, rfl, Nat.le_refl _, fun _ _ => rfl⟩⟩
  generalize (W.alloc (.cells #[.int .i64 1] 3)).drewN n4 = W4 at *
  clear cc2 HW HA4
  have hp := play_o l ao cap W4 (H.out.below HB4.out (Nat.le_refl _)) Hf.out
  rw [HN.out] at hp
  have HP := box hp
  clear hp
  go_wp2_with fail
  refine HP.out.mono ?_
  clear HP
  rintro e w5 ⟨hb5, ⟨hc, rfl⟩ | ⟨hc, s, ao5, bo5, co5, d1, d2, d3, ht, hI, hA, rfl, _, _, _, _⟩⟩
  · have HB5 := box (below_tr HB4.out hb5)
    have hs5 := HB5.out.size
    generalize RunM.check l = c at *
    have g1 : (c != 0) = true := by simpa using hc
    clear hb5 hc
    go_wp2_with fail
    go_ret
    exact ⟨rfl, HB5.out.alloc hs5 _⟩
  have HB5 := box (below_tr HB4.out hb5)
  have hs5 := HB5.out.size
  have HNo : Box ((∀ o ∈ l, ∃ x ∈ l, x.tx = o.tx ∧ 3 ≤ x.kind) → (pick (isLate s) 12).length = 0) := ⟨fun he => by
    have hn := hI.nobody hA he
    unfold pick
    rw [List.length_map, List.length_eq_zero_iff, List.filter_eq_nil_iff]
    intro j _
    unfold isLate
    rw [hn j]
    simp⟩
  generalize (pick (isLate s) 12).length = LL at *
  generalize (pick s.dead 12).length = DL at *
  generalize s.out.length = OL at *
  clear hb5 hc ht hI hA
  go_upto_region 5 with (fail)
  refine name_world (fun W => Below w.heap.size w W ∧ Blk W w5.heap.size 25 [.slice ao5 OL d1, .slice bo5 DL d2, .slice co5 LL d3]) ⟨HB5.out.alloc hs5 _, Blk.new _ _ _⟩ ?_
  rintro W6 ⟨hbW, hkW⟩
  have HW6 := box hbW; have HK6 := box hkW
  clear hbW hkW HB5 hs5
  generalize w5.heap.size = B5 at *
  go_wp2_with fail
  go_loopw [34] (fun t34 wr => ∃ k : Nat, k ≤ N ∧ t34 = .int .i64 (k : Int) ∧ Box ((∀ i (hi : i < l.length), i < k → l.any (fun x => (x.tx == l[i].tx) && decide (3 ≤ x.kind)) = true) ∧ Below W6.heap.size W6 wr)) (fun t34 _ => N - (RowKit.intOf t34).toNat)
  case atStart => exact ⟨0, Nat.zero_le _, rfl, ⟨fun i _ h => by omega, Below.refl _ _⟩⟩
  case round =>
    obtain ⟨k, hk, rfl, HR⟩ := hrel
    have HBr : Box (Below w.heap.size w wr) := ⟨HW6.out.trans (HR.out.2.mono HW6.out.size)⟩
    by_cases hlt : k < N
    · have hkl : k < l.length := by rw [HN.out]; exact hlt
      obtain ⟨b, off, rfl, hb, hrow⟩ := ((H.out.below HBr.out (Nat.le_refl _)).resolve_left (by intro h; rw [h] at hkl; simp at hkl))
      obtain ⟨hc0, hc1, hc2⟩ := hrow k hkl
      have HX := box (Blk.new wr [.int .i64 l[k].tx, .int .i64 l[k].kind, .int .i64 l[k].item] 30)
      have hsr := HBr.out.size
      have hal : Below wr.heap.size wr (wr.alloc (.cells [.int .i64 l[k].tx, .int .i64 l[k].kind, .int .i64 l[k].item].toArray 30)) := (Below.refl _ _).alloc (Nat.le_refl _) _
      have HCf := box (containsFunc_ops l (some ⟨b, off, none⟩) cap 13 #[.pointer (some ⟨wr.heap.size, 0, none⟩)] (fun x => (x.tx == l[k].tx) && decide (3 ≤ x.kind)) (wr.alloc (.cells [.int .i64 l[k].tx, .int .i64 l[k].kind, .int .i64 l[k].item].toArray 30)) (H.out.below (HBr.out.trans (hal.mono hsr)) (Nat.le_refl _)) (by rw [HN.out]; omega) (fun V hV x => twoEnds_f x wr.heap.size l[k] V (HX.out.after hV)) (enters_fn Try.func13 (by kernel_rfl) rfl))
      rw [HN.out] at HCf
      obtain ⟨an, HAN⟩ : ∃ an, Box (l.any (fun x => (x.tx == l[k].tx) && decide (3 ≤ x.kind)) = an) := ⟨_, ⟨rfl⟩⟩
      have HAl : Box (Below wr.heap.size wr (wr.alloc (.cells [.int .i64 l[k].tx, .int .i64 l[k].kind, .int .i64 l[k].item].toArray 30))) := ⟨hal⟩
      rw [HAN.out] at HCf
      have HNx : Box (an = true → ∀ i (hi : i < l.length), i < k + 1 → l.any (fun x => (x.tx == l[i].tx) && decide (3 ≤ x.kind)) = true) := ⟨fun e i hi h => by
        by_cases e2 : i = k
        · subst e2; rw [HAN.out, e]
        · exact HR.out.1 i hi (by omega)⟩
      clear hal HX HAN hrow hb
      generalize l[k] = o at *
      obtain ⟨tx, kind, item⟩ := o
      simp only [List.toArray] at hc0 hc1 hc2 HCf HAl
      go_wp2_with fail
      refine HCf.out.mono ?_
      rintro e w9 ⟨rfl, hb9⟩
      have HB9 : Box (Below wr.heap.size wr w9) := ⟨below_tr HAl.out hb9⟩
      clear hb9 HCf HAl hc0 hc1 hc2
      cases an with
      | false =>
        go_wp2_with fail
        go_ret
        exact ⟨rfl, HBr.out.trans (HB9.out.mono hsr)⟩
      | true =>
        have HE : Box ((∀ i (hi : i < l.length), i < k + 1 → l.any (fun x => (x.tx == l[i].tx) && decide (3 ≤ x.kind)) = true) ∧ Below W6.heap.size W6 w9) := ⟨HNx.out rfl, HR.out.2.trans (HB9.out.mono HR.out.2.size)⟩
        clear HNx HR HB9
        go_wp2_with fail
        go_roundw
        case rel => exact ⟨k + 1, hlt, by go_num, HE⟩
        case measure => simp [RowKit.intOf]; omega
    · obtain rfl : k = N := by omega
      have hLL : LL = 0 := HNo.out fun o ho => by
        obtain ⟨i, hi, rfl⟩ := List.mem_iff_getElem.1 ho
        have h1 := HR.out.1 i hi (by have := HN.out; omega)
        rw [List.any_eq_true] at h1
        obtain ⟨x, hx, h2⟩ := h1
        rw [Bool.and_eq_true, decide_eq_true_eq, beq_iff_eq] at h2
        exact ⟨x, hx, h2.1, h2.2⟩
      subst hLL
      have HK7 := box (HK6.out.after HR.out.2)
      have cz := HK7.out.cell (i := 2) rfl
      have hz := HK7.out.lt
      clear HR
      go_wp2_with fail
      go_ret
      exact ⟨by simp, HBr.out⟩
end
section
namespace lawTwoEnds
open Go.ChangeShapes Go.WideShapes Go.ChangeAt Go.RowKit Go.ChangeMaps

set_option maxRecDepth 100000 in
theorem lifted (os : Os) (started : os.Started) (H : Type) (enc : TypeId × Value → H) :
    ReturnsInHanded {} Try.checked os 4 .any (Rows.twoEndsSpec.pre6 enc Try.prog Try.f4 [] false) (Rows.twoEndsSpec.post enc Try.prog Try.f4 false true false false) := by
  refine LawKit.law_lifted started (by kernel_rfl) Try.func4 rfl
    (fun ds h => by
      match ds, h with
      | [_], _ => rfl)
    rfl Try.underlying4 (by intro t ht; exact of_decide_eq_true (p := Try.prog.readableRec t = true ∧ t < Try.prog.types.size) (by revert t ht; decide +kernel))
    (ChangeSpec.witness6 (enc := enc) (C := Try.checked) false ⟨#[], #[.slice none 0 0], []⟩ 8 (by kernel_rfl) (by kernel_rfl) (by kernel_rfl) (by kernel_rfl)) ?_
  intro W base args ds ps hval hA hsz hlt hfz
  have hA' := hA
  rw [Try.params4] at hA hval
  obtain ⟨v0, vs0, d0, ds0, p0, q0, hargs, rfl, rfl, h0, r0⟩ := trodAll_cons hA
  obtain ⟨rfl, rfl, rfl⟩ := trodAll_nil r0
  obtain rfl : args = #[v0] := by cases args; simp_all
  obtain ⟨ao, cap, ls, rfl, hnil, hat, hfits, _, _⟩ := open_ops (hval 0 _ _ rfl rfl) h0 (Open.weights_bound hsz (j := 0) (by rw [Try.params4]; rfl) rfl)
  refine (twoEnds_calls ls ao cap W hat hfits).mono ?_
  rintro e W' ⟨rfl, hb⟩
  exact ⟨rfl, hb⟩

theorem proved : Rows.TwoEndsSaid :=
  OpenClaim.holds_of_wide 4 Try.f4 rfl rfl rfl rfl rfl rfl rfl ⟨rfl, rfl, rfl, rfl, rfl⟩ rfl rfl rfl rfl rfl (by kernel_rfl) Try.func4 (by kernel_rfl)
    (of_decide_eq_true (by kernel_rfl)) (by unfold Func.isWrapper; first | (rw [if_pos (by decide +kernel)]; kernel_rfl) | (rw [if_neg (by decide +kernel)]; exact ⟨rfl, rfl⟩))
    (fun os started H enc _ => lifted os started H enc)
end lawTwoEnds
end
end Go.Proofs.Ytnnkejolfhhmlaa
