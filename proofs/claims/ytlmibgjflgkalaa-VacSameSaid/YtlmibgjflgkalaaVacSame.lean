/- VacSame is proved for every input: no condition stands ahead of it. -/
import Derived.Test.YtlmibgjflgkalaaLawKit
import Derived.Test.YtlmibgjflgkalaaVacDel
import Derived.Test.YtlmibgjflgkalaaVersOpen
import Derived.Deep.RegionHeld3
namespace Go.Proofs.Ytlmibgjflgkalaa
open Go.RowKit Go.Lib

def VacM.three : List (Int × ByteArray) := [(1, ⟨#[97]⟩), (3, ⟨#[98]⟩), (5, ⟨#[99]⟩)]
def VacM.two : List (Int × ByteArray) := [(1, ⟨#[97]⟩), (5, ⟨#[99]⟩)]
theorem VacM.three_keep : VacM.chk VacM.three [2] 6 = 0 ∧ VacM.keep VacM.three ([2] ++ [6]) = VacM.two := by decide
theorem VersAt.blk' {w : World} {b : Nat} {l : List (Int × ByteArray)} (h : Blk w b 68 (vrVals l)) : VersAt w (some ⟨b, 0, none⟩) l :=
  Or.inr ⟨b, 0, rfl, h.lt, fun k hk => by
    obtain ⟨a0, a1⟩ := vrVals_at l k hk
    rw [Nat.zero_add]
    exact ⟨h.cell a0, h.cell a1⟩⟩
theorem IntsAt.blk' {w : World} {b : Nat} {l : List Int} (h : Blk w b 3 (intVals l)) : IntsAt w (some ⟨b, 0, none⟩) l :=
  Or.inr ⟨b, 0, rfl, h.lt, fun k hk => by
    rw [Nat.zero_add]
    exact h.cell (intVals_get hk)⟩

set_option maxRecDepth 20000 in
set_option maxHeartbeats 8000000 in
theorem vacSame_calls (l : List (Int × ByteArray)) (act : List Int) (now later : Int) (ao bo : Option Addr) (cap cap' : Nat) (w : World) (h : VersAt w ao l) (h' : IntsAt w bo act) (hn : l.length ≤ 9000000000000) (hm : act.length ≤ 900000000000000000)
    (hnil : bo = none → cap' = 0) :
    Calls Try.prog 9 #[.slice ao l.length cap, .slice bo act.length cap', .int .i64 now, .int .i64 later] w fun e w' => e = .returned (.bool true) ∧ Below w.heap.size w w' := by
  have H := box h
  have H' := box h'
  have HK := box (fun w h h' => vacKeep_any l act now ao bo cap cap' w h h' hn hm hnil)
  have HK0 := box (fun b c w (h : VersAt w (some ⟨b, 0, none⟩) VacM.three) (h' : IntsAt w (some ⟨c, 0, none⟩) [2]) => vacKeep_any VacM.three [2] 6 (some ⟨b, 0, none⟩) (some ⟨c, 0, none⟩) 3 1 w h h' (by decide) (by decide) (fun h => by cases h))
  clear h h'
  go_enter Try.func9, Try.ntmps9
  go_upto_region 2 with (fail)
  refine name_world (fun W => Below w.heap.size w W ∧ Blk W w.heap.size 68 [.int .i64 1, .string ⟨#[97]⟩, .int .i64 3, .string ⟨#[98]⟩, .int .i64 5, .string ⟨#[99]⟩]) ⟨(Below.refl _ _).alloc (Nat.le_refl _) _, Blk.new _ _ _⟩ ?_
  rintro W ⟨hbW, hkW⟩
  obtain ⟨B, HBb⟩ : ∃ B, Box (w.heap.size = B) := ⟨_, ⟨rfl⟩⟩
  rw [HBb.out] at hkW ⊢
  have HKW := box hkW
  have HBW := box hbW
  clear hbW hkW
  go_wp2_with fail
  have hv0 : VersAt (W.alloc (.cells #[.int .i64 2] 3)) (some ⟨B, 0, none⟩) VacM.three := VersAt.blk' (l := VacM.three) (HKW.out.alloc _)
  have hi0 : IntsAt (W.alloc (.cells #[.int .i64 2] 3)) (some ⟨W.heap.size, 0, none⟩) [2] := IntsAt.blk' (l := [2]) (Blk.new W [.int .i64 2] _)
  refine (HK0.out _ _ _ hv0 hi0).mono ?_
  rintro e w1 ⟨⟨ko, kc, m, rfl, hm1, hat1, hkc, _⟩, hb1⟩
  rw [VacM.three_keep.1, if_pos rfl, VacM.three_keep.2] at hm1
  subst hm1
  rw [VacM.three_keep.1, show VacM.two.length = 2 from rfl]
  have HP1 := box ((HKW.out.alloc (.cells #[.int .i64 2] 3)).after hb1)
  have HAT1 := box hat1
  have HB1 := box (below_tr (HBW.out.alloc HBW.out.size (.cells #[.int .i64 2] 3)) hb1)
  clear hb1 hv0 hi0 HK0 hat1
  go_upto_region 3 with (fail)
  have Heq : Box (∀ wz, Below w1.heap.size w1 wz → ∀ b, Blk wz b 68 [.int .i64 1, .string ⟨#[97]⟩, .int .i64 5, .string ⟨#[99]⟩] → Calls Try.prog 36 #[.slice ko 2 kc, .slice (some ⟨b, 0, none⟩) 2 2] wz fun e w' => e = .returned (.bool true) ∧ ∃ n, w' = wz.drewN n) := ⟨fun wz hb b h => equalVers_any VacM.two ko (some ⟨b, 0, none⟩) kc 2 wz (HAT1.out.below (B := w1.heap.size) hb (Nat.le_refl _)) (VersAt.blk' (l := VacM.two) h) (by decide)⟩
  have hx0 := HP1.out.cell (i := 0) rfl
  have hx1 := HP1.out.cell (i := 1) rfl
  have hx4 := HP1.out.cell (i := 4) rfl
  have hx5 := HP1.out.cell (i := 5) rfl
  have hHb := HP1.out.lt
  have hka : ∀ o, (w1.alloc o).drew.cell? ⟨B, 0, none⟩ = some (.int .i64 1) ∧ (w1.alloc o).drew.cell? ⟨B, 1, none⟩ = some (.string ⟨#[97]⟩) ∧ (w1.alloc o).drew.cell? ⟨B, 4, none⟩ = some (.int .i64 5) ∧ (w1.alloc o).drew.cell? ⟨B, 5, none⟩ = some (.string ⟨#[99]⟩) := fun o => ⟨(HP1.out.alloc o).drew.cell (i := 0) rfl, (HP1.out.alloc o).drew.cell (i := 1) rfl, (HP1.out.alloc o).drew.cell (i := 4) rfl, (HP1.out.alloc o).drew.cell (i := 5) rfl⟩
  have hkb : ∀ o n, ((w1.alloc o).drewN n).cell? ⟨B, 0, none⟩ = some (.int .i64 1) ∧ ((w1.alloc o).drewN n).cell? ⟨B, 1, none⟩ = some (.string ⟨#[97]⟩) ∧ ((w1.alloc o).drewN n).cell? ⟨B, 4, none⟩ = some (.int .i64 5) ∧ ((w1.alloc o).drewN n).cell? ⟨B, 5, none⟩ = some (.string ⟨#[99]⟩) := fun o n => ⟨((HP1.out.alloc o).drewN n).cell (i := 0) rfl, ((HP1.out.alloc o).drewN n).cell (i := 1) rfl, ((HP1.out.alloc o).drewN n).cell (i := 4) rfl, ((HP1.out.alloc o).drewN n).cell (i := 5) rfl⟩
  go_cut [45] (fun s wx => s = .bool false ∧ Below w.heap.size w wx)
  case first =>
    go_region_held3 (fun w' => w'.cell? ⟨B, 0, none⟩ = some (.int .i64 1) ∧ w'.cell? ⟨B, 1, none⟩ = some (.string ⟨#[97]⟩) ∧ w'.cell? ⟨B, 4, none⟩ = some (.int .i64 5) ∧ w'.cell? ⟨B, 5, none⟩ = some (.string ⟨#[99]⟩)) (first | exact ⟨hx0, hx1, hx4, hx5⟩ | assumption | exact hka _ | exact hkb _ _) (first
      | (go_at_call 36; refine (Heq.out _ ((Below.refl _ _).alloc (Nat.le_refl _) _).drew w1.heap.size (Blk.new w1 [.int .i64 1, .string ⟨#[97]⟩, .int .i64 5, .string ⟨#[99]⟩] _).drew).mono ?_; rintro e w6 ⟨rfl, n6, rfl⟩))
    go_step
    go_step
    go_meet
    exact ⟨rfl, HB1.out.trans ((vac_dN ((Below.refl w1.heap.size w1).alloc (Nat.le_refl _) _) _).mono HB1.out.size)⟩
  case rest =>
  obtain ⟨rfl, hbc⟩ := hcut
  have HC := box hbc
  clear hbc hx0 hx1 hx4 hx5 hka hkb Heq HP1 HAT1 HB1 HKW HBW
  go_wp2_with fail
  refine (HK.out _ (H.out.below HC.out (Nat.le_refl _)) (H'.out.below HC.out (Nat.le_refl _))).mono ?_
  rintro e w2 ⟨⟨ko, kc, m, rfl, hm2, hat2, hkc, hkn⟩, hb2⟩
  have HB2 := box (below_tr HC.out hb2)
  clear hb2
  by_cases hc : VacM.chk l act now = 0
  case neg =>
    have q1 : (VacM.chk l act now == 0) = false := by simpa using hc
    have q2 : (VacM.chk l act now != 0) = true := by simpa using hc
    rw [if_neg hc] at hm2
    subst hm2
    clear hc HK hat2
    generalize VacM.chk l act now = c at *
    go_wp2_with fail
    go_ret
    exact ⟨rfl, HB2.out⟩
  rw [hc, if_pos rfl] at hm2
  rw [hc]
  have HOK := box (VacM.chk_iff.1 hc)
  have hlen := HOK.out.len
  have halen := HOK.out.alen
  have HOKm : Box (VacM.Ok m act now) := ⟨by rw [hm2]; exact VacM.keep_ok HOK.out _⟩
  have Hchk := box (VacM.chk_iff.2 HOKm.out)
  have Hagain : Box (VacM.keep m (act ++ [now]) = m) := ⟨by rw [hm2]; exact VacM.again _ _⟩
  have Hsame : Box (∀ s, s ∈ act ++ [now] ∨ now ≤ s → ∀ t u ok is, VacM.Rd l s t ok → VacM.Rd m s u is → t = u ∧ ok = is) := ⟨fun s hs t u ok is h1 h2 => by rw [hm2] at h2; exact VacM.same HOK.out hs h1 h2⟩
  have hmle := HOKm.out.len
  have HAT2 := box hat2
  clear hc hm2 HK hat2
  go_wp2_with fail
  refine (cloneInts_any act bo cap' _ (H'.out.below HB2.out (Nat.le_refl _)) hnil (by omega)).mono ?_
  rintro e w5 ⟨⟨v, rfl, hown⟩, hb5⟩
  have hs5 := hb5.size
  obtain ⟨i0, hi0, hz0, hz1, hz2⟩ := info_parts VacM.infoI
  obtain ⟨M, HM⟩ : ∃ M, Box (max now later = M) := ⟨_, ⟨rfl⟩⟩
  have hown2 := hown.alloc (.cells #[.int .i64 now, .int .i64 M] 3)
  have hmx : (if now < later then later else now) = M := by rw [← HM.out]; omega
  go_wp2_with (at_builtin; go_must (refine wpList_append_own _ rfl _ _ 31 rfl w2.heap.size 3 i0 _ 1 8 Try.underlying31 hi0 hz0 hz1 hz2 rfl (by decide) _ _ _ rfl hown2 ⟨w5.heap.size, 0, none⟩ 2 2 [.int .i64 now, .int .i64 M] rfl rfl (cells_new w5 [.int .i64 now, .int .i64 M] 3) (by simp [Value.oneCell']) (by unfold maxLen; omega) (by omega) (by simp; omega) ?_))
  intro v' w6 hown3 hgrow _
  have hb9 : ∀ j, v.ownBlock = some j → w2.heap.size ≤ j := fun j hj => (hown.lt j hj).1
  have Hb6 := box ((hb5.alloc hs5 (.cells #[.int .i64 now, .int .i64 M] 3)).grown hgrow (by simp; omega) (fun j hj => by have := hb9 j hj; omega))
  have HB6 := box (below_tr HB2.out Hb6.out)
  have HAT6 := box (HAT2.out.below Hb6.out (Nat.le_refl _))
  obtain ⟨S, HS⟩ : ∃ S, Box (act ++ [now, M] = S) := ⟨_, ⟨rfl⟩⟩
  have hSl : S.length = act.length + 2 := by rw [← HS.out]; simp
  have hown4 : w6.ownsRow w2.heap.size 3 1 v' S.length (intVals S) := by
    rw [← HS.out, intVals_append, List.length_append]; exact hown3
  obtain ⟨so, sc, rfl, _, hat6, _, hsc⟩ := IntsAt.own hown4
  have HS6 := box hat6
  have HSs : Box (∀ s ∈ S, s ∈ act ++ [now] ∨ now ≤ s) := ⟨fun s hs => by
    rw [← HS.out] at hs
    rcases List.mem_append.1 hs with h | h
    · exact Or.inl (List.mem_append.2 (Or.inl h))
    · rcases List.mem_cons.1 h with rfl | h
      · exact Or.inl (by simp)
      · right
        have : s = M := by simpa using h
        rw [this, ← HM.out]; omega⟩
  have hS13 : S.length ≤ 14 := by omega
  clear hown hown2 hown3 hown4 hgrow hb9 hat6 hSl hb5 hmx
  go_wp2_with fail
  go_loopw [67] (fun t67 wr => ∃ a : Nat, a ≤ S.length ∧ t67 = .int .i64 (a : Int) ∧ Box (Below w6.heap.size w6 wr)) (fun t67 _ => S.length - (intOf t67).toNat)
  case atStart => exact ⟨0, Nat.zero_le _, rfl, ⟨Below.refl _ _⟩⟩
  case round =>
    obtain ⟨a, ha, rfl, Hb⟩ := hrel
    have HBr := box (below_tr HB6.out Hb.out)
    by_cases hlt : a < S.length
    case neg =>
      go_wp2_with fail
      refine (vacKeep_any m act now ko bo kc cap' _ (HAT6.out.below Hb.out (Nat.le_refl _)) (H'.out.below HBr.out (Nat.le_refl _)) (by omega) hm hnil).mono ?_
      rintro e w8 ⟨⟨k2, kc2, m2, rfl, hm3, hat3, hkc2, _⟩, hb8⟩
      rw [Hchk.out, if_pos rfl, Hagain.out] at hm3
      subst hm3
      rw [Hchk.out]
      have HB8 := box (below_tr HBr.out hb8)
      have HAT8 := box ((HAT6.out.below Hb.out (Nat.le_refl _)).below hb8 (Nat.le_refl _))
      have HAT3 := box hat3
      clear hb8 hat3
      go_wp2_with fail
      refine (equalVers_any _ k2 ko kc2 kc _ HAT3.out HAT8.out (by omega)).mono ?_
      rintro e w9 ⟨rfl, n9, rfl⟩
      go_wp2_with fail
      go_ret
      exact ⟨rfl, vac_dN HB8.out _⟩
    have HSr := box (HS6.out.below Hb.out (Nat.le_refl _))
    obtain ⟨b, off, rfl, hb, hrow⟩ := (HSr.out.resolve_left (by intro h; rw [h] at hlt; simp at hlt))
    have hc0 := hrow a hlt
    have HSx := box (Hsame.out S[a] (HSs.out _ (List.getElem_mem hlt)))
    clear hrow
    generalize S[a] = s at *
    go_wp2_with fail
    refine (vacRead_any l s ao cap _ (H.out.below HBr.out (Nat.le_refl _)) (by omega) HOK.out.inc).mono ?_
    rintro e w8 ⟨⟨t, ok, rfl, hrd⟩, hb8⟩
    have Hb8 := box (Hb.out.trans (hb8.mono Hb.out.size))
    have HRD := box hrd
    clear hb8 hrd
    go_wp2_with fail
    refine (vacRead_any m s ko kc _ (HAT6.out.below Hb8.out (Nat.le_refl _)) (by omega) HOKm.out.inc).mono ?_
    rintro e w9 ⟨⟨t', ok', rfl, hrd⟩, hb9⟩
    have Hb9 := box (Hb8.out.trans (hb9.mono Hb8.out.size))
    obtain ⟨rfl, rfl⟩ := HSx.out _ _ _ _ HRD.out hrd
    clear hb9 hrd HSx
    have e1 : (t.toList == t.toList) = true := by simp
    have e2 : (t.toList != t.toList) = false := by simp
    cases ok with
    | true =>
      go_wp2_with fail
      go_roundw
      case rel => exact ⟨a + 1, hlt, by go_num, Hb9⟩
      case measure => simp [intOf]; omega
    | false =>
      go_wp2_with fail
      go_roundw
      case rel => exact ⟨a + 1, hlt, by go_num, Hb9⟩
      case measure => simp [intOf]; omega
namespace lawVacSame
open Go.ChangeShapes Go.WideShapes Go.ChangeAt Go.RowKit Go.ChangeMaps

set_option maxRecDepth 100000 in
theorem lifted (os : Os) (started : os.Started) (H : Type) (enc : TypeId × Value → H) :
    ReturnsInHanded {} Try.checked os 9 .any (Rows.vacSameSpec.pre6 enc Try.prog Try.f9 [] false) (Rows.vacSameSpec.post enc Try.prog Try.f9 false true false false) := by
  refine LawKit.law_lifted started (by kernel_rfl) Try.func9 rfl
    (fun ds h => by
      match ds, h with
      | [_, _, _, _], _ => rfl)
    rfl Try.underlying4 (by intro t ht; exact of_decide_eq_true (p := Try.prog.readableRec t = true ∧ t < Try.prog.types.size) (by revert t ht; decide +kernel))
    (ChangeSpec.witness6 (enc := enc) (C := Try.checked) false ⟨#[], #[.slice none 0 0, .slice none 0 0, .int .i64 0, .int .i64 0], []⟩ 8 (by kernel_rfl) (by kernel_rfl) (by kernel_rfl) (by kernel_rfl)) ?_
  intro W base args ds ps hval hA hsz hlt hfz
  have hA' := hA
  rw [Try.params9] at hA hval
  obtain ⟨v0, vs0, d0, ds0, p0, q0, hargs, rfl, rfl, h0, r0⟩ := trodAll_cons hA
  obtain ⟨v1, vs1, d1, ds1, p1, q1, rfl, rfl, rfl, h1, r1⟩ := trodAll_cons r0
  obtain ⟨v2, vs2, d2, ds2, p2, q2, rfl, rfl, rfl, h2, r2⟩ := trodAll_cons r1
  obtain ⟨v3, vs3, d3, ds3, p3, q3, rfl, rfl, rfl, h3, r3⟩ := trodAll_cons r2
  obtain ⟨rfl, rfl, rfl⟩ := trodAll_nil r3
  obtain rfl : args = #[v0, v1, v2, v3] := by cases args; simp_all
  go_open 2 now
  go_open 3 later
  obtain ⟨ao, cap, l, rfl, hnil, hat, hlen, hcap⟩ := open_vers (hval 0 _ _ rfl rfl) h0 (Open.weights_bound hsz (j := 0) (by rw [Try.params9]; rfl) rfl)
  obtain ⟨bo, cap2, act, rfl, hnil2, hat2, hlen2, hcap2, _⟩ := open_numbers (hval 1 _ _ rfl rfl) h1 (Open.weights_bound hsz (j := 1) (by rw [Try.params9]; rfl) rfl)
  refine (vacSame_calls l act now later ao bo cap cap2 W hat hat2 (by omega) (by omega) hnil2).mono ?_
  rintro e W' ⟨rfl, hb⟩
  exact ⟨rfl, hb⟩

theorem proved : Rows.VacSameSaid :=
  OpenClaim.holds_of_wide 9 Try.f9 rfl rfl rfl rfl rfl rfl rfl ⟨rfl, rfl, rfl, rfl, rfl⟩ rfl rfl rfl rfl rfl (by kernel_rfl) Try.func9 (by kernel_rfl)
    (of_decide_eq_true (by kernel_rfl)) (by unfold Func.isWrapper; first | (rw [if_pos (by decide +kernel)]; kernel_rfl) | (rw [if_neg (by decide +kernel)]; exact ⟨rfl, rfl⟩))
    (fun os started H enc _ => lifted os started H enc)
end lawVacSame
end Go.Proofs.Ytlmibgjflgkalaa
