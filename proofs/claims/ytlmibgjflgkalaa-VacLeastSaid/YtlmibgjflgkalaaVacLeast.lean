/- VacLeast is proved for every input: no condition stands ahead of it. -/
import Derived.Test.YtlmibgjflgkalaaLawKit
import Derived.Test.YtlmibgjflgkalaaVacDel
import Derived.Test.YtlmibgjflgkalaaVersOpen
import Derived.Test.YtlmibgjflgkalaaRest
namespace Go.Proofs.Ytlmibgjflgkalaa
open Go.RowKit Go.Lib

def VacM.one : List (Int × ByteArray) := [(1, ⟨#[97]⟩)]
theorem VacM.one_keep : VacM.chk VacM.one [] 3 = 0 ∧ (VacM.keep VacM.one ([] ++ [3])).length = 1 := by decide

theorem VersAt.blk {w : World} {b : Nat} {l : List (Int × ByteArray)} (h : Blk w b 68 (vrVals l)) : VersAt w (some ⟨b, 0, none⟩) l :=
  Or.inr ⟨b, 0, rfl, h.lt, fun k hk => by
    obtain ⟨a0, a1⟩ := vrVals_at l k hk
    rw [Nat.zero_add]
    exact ⟨h.cell a0, h.cell a1⟩⟩

set_option maxRecDepth 20000 in
set_option maxHeartbeats 1000000 in
theorem vacLeast_other (x : Int × ByteArray) (b : Nat) (va : Int) (vt : ByteArray) (w : World) (h : Blk w b 68 [.int .i64 va, .string vt]) (hne : x.1 ≠ va) :
    Calls Try.prog 35 (#[.agg #[.int .i64 x.1, .string x.2]] ++ #[.pointer (some ⟨b, 0, none⟩)]) w fun e w' => e = .returned (.bool false) ∧ Below w.heap.size w w' := by
  obtain ⟨xa, xt⟩ := x
  simp only at hne ⊢
  have e0 : (xa == va) = false := by simpa using hne
  have c0 := (h.alloc (.cells #[.int .i64 xa, .string xt] 68)).cell (i := 0) rfl
  have c1 := (h.alloc (.cells #[.int .i64 xa, .string xt] 68)).cell (i := 1) rfl
  clear h hne
  go_enter Try.func35, Try.ntmps35
  go_wp2_with fail
  go_ret
  exact ⟨rfl, (Below.refl _ _).alloc (Nat.le_refl _) _⟩

/-- Is version i of those kept the newest that is seen at s? -/
def VacM.good (m : List (Int × ByteArray)) (i : Nat) (s : Int) : Prop := ∃ h : i < m.length, m[i].1 ≤ s ∧ ∀ h' : i + 1 < m.length, ¬ m[i + 1].1 ≤ s

set_option maxRecDepth 20000 in
set_option maxHeartbeats 8000000 in
theorem vacLeast_calls (l : List (Int × ByteArray)) (act : List Int) (now at' : Int) (ao bo : Option Addr) (cap cap' : Nat) (w : World) (h : VersAt w ao l) (h' : IntsAt w bo act) (hn : l.length ≤ 9000000000000) (hm : act.length ≤ 900000000000000000)
    (hnil : bo = none → cap' = 0) :
    Calls Try.prog 8 #[.slice ao l.length cap, .slice bo act.length cap', .int .i64 now, .int .i64 at'] w fun e w' => e = .returned (.bool true) ∧ Below w.heap.size w w' := by
  have H := box h
  have H' := box h'
  have HK := box (fun w h h' => vacKeep_any l act now ao bo cap cap' w h h' hn hm hnil)
  have HK0 := box (fun b w h => vacKeep_any VacM.one [] 3 (some ⟨b, 0, none⟩) none 1 0 w h (Or.inl rfl) (by decide) (by decide) (fun _ => rfl))
  clear h h'
  go_enter Try.func8, Try.ntmps8
  go_wp2_with fail
  refine (HK0.out _ _ (VersAt.blk (Blk.new w (vrVals VacM.one) _))).mono ?_
  rintro e w1 ⟨⟨ko, kc, m, rfl, hm1, _, _, _⟩, hb1⟩
  rw [VacM.one_keep.1, if_pos rfl] at hm1
  have hml : m.length = 1 := by rw [hm1]; exact VacM.one_keep.2
  rw [VacM.one_keep.1, hml]
  have HB1 := box (((Below.refl _ _).alloc (Nat.le_refl _) (.cells #[.int .i64 1, .string ⟨#[97]⟩] 68)).trans (hb1.mono (by simp)))
  clear hb1 hm1 hml HK0
  go_wp2_with fail
  refine (HK.out _ (H.out.below HB1.out (Nat.le_refl _)) (H'.out.below HB1.out (Nat.le_refl _))).mono ?_
  rintro e w2 ⟨⟨ko, kc, m, rfl, hm2, hat2, hkc, hkn⟩, hb2⟩
  have HB2 := box (below_tr HB1.out hb2)
  clear hb2
  by_cases hc : VacM.chk l act now = 0
  case neg =>
    have q1 : (VacM.chk l act now == 0) = false := by simpa using hc
    have q2 : (VacM.chk l act now != 0) = true := by simpa using hc
    clear hc hm2 HK hat2
    generalize VacM.chk l act now = c at *
    go_wp2_with fail
    go_ret
    exact ⟨rfl, HB2.out⟩
  rw [hc, if_pos rfl] at hm2
  rw [hc]
  have HOK := box (VacM.chk_iff.1 hc)
  have hlen := HOK.out.len
  have halen := HOK.out.alen
  have hmle : m.length ≤ 100 := by have := List.length_filter_le (VacM.hit l (act ++ [now])) l; rw [hm2]; show (VacM.keep l _).length ≤ _; unfold VacM.keep; omega
  have Hinc : Box (m.Pairwise (fun u v => u.1 < v.1)) := ⟨by rw [hm2]; exact HOK.out.inc.filter _⟩
  have Hneed : Box (∀ i, i < m.length → ∃ s ∈ act ++ [now], VacM.good m i s) := ⟨fun i hi => by
    subst hm2
    obtain ⟨s, h1, h2, h3⟩ := VacM.needed (l := l) (S := act ++ [now]) HOK.out.inc hi
    exact ⟨s, h1, hi, h2, h3⟩⟩
  have HAT2 := box hat2
  clear hc hm2 HK hat2
  by_cases h0 : m.length = 0
  · rw [h0]
    go_wp2_with fail
    go_ret
    exact ⟨rfl, HB2.out⟩
  have q3 : ((m.length : Int) == 0) = false := by simp; exact fun h => h0 (by rw [h]; rfl)
  go_wp2_with fail
  refine (rest_any at' m.length _ (by omega) (by omega)).mono ?_
  rintro e w2' ⟨rfl, rfl⟩
  obtain ⟨i, Hi⟩ : ∃ i, Box ((at' % (m.length : Int)).toNat = i) := ⟨_, ⟨rfl⟩⟩
  rw [Hi.out]
  have hi : i < m.length := by
    rw [← Hi.out]
    have h1 := Int.emod_nonneg at' (show (m.length : Int) ≠ 0 by omega)
    have h2 := Int.emod_lt_of_pos at' (show (0 : Int) < m.length by omega)
    omega
  have w8 : IntKind.i64.wrap ((i : Int) + 1) = (i : Int) + 1 := IntWalk.i64_in _ (by omega)
  clear h0 q3
  go_wp2_with fail
  refine (cloneVers_any m ko kc _ HAT2.out hkn (by omega)).mono ?_
  rintro e w3 ⟨⟨v3, rfl, hown3⟩, hb3⟩
  have HB3 := box (below_tr HB2.out hb3)
  have HAT3 := box (HAT2.out.below hb3 (Nat.le_refl _))
  have hs3 := hb3.size
  obtain ⟨g, gc, rfl, hg1, hg2, hg3, hg4⟩ : ∃ g gc, v3 = .slice (some ⟨g, 0, none⟩) m.length gc ∧ w2.heap.size ≤ g ∧ g < w3.heap.size ∧ m.length ≤ gc ∧ gc ≤ 9223372036854775807 := by
    rcases hown3.2 with ⟨_, h⟩ | ⟨g, c, cur, h1, h2, h3, h4, h5, _⟩
    · omega
    · exact ⟨g, c, h1, h2, (Array.getElem?_eq_some_iff.1 h3).1, h4, by unfold maxLen at h5; omega⟩
  have HO3 := box hown3
  have Hb3 := box hb3
  clear hb3 hown3
  go_wp2_with fail
  refine (vacDelete_any m i gc g _ _ HO3.out hi hg3 hg4).mono ?_
  rintro e w4 ⟨rfl, hat4, hgr4⟩
  have Hb4 := box (Hb3.out.drew.grown hgr4 (by simpa using hs3) (fun j hj => by injection hj with hj; omega))
  have HB4 := box (below_tr HB2.out Hb4.out)
  have HAT4 := box (HAT2.out.below Hb4.out (Nat.le_refl _))
  obtain ⟨less, HL⟩ : ∃ less, Box (m.eraseIdx i = less) := ⟨_, ⟨rfl⟩⟩
  rw [HL.out] at hat4 ⊢
  have HLt4 := box hat4
  have HLne : Box (∀ x ∈ less, x.1 ≠ (m[i]'hi).1) := ⟨fun x hx he => by
    rw [← HL.out] at hx
    obtain ⟨k, hk, rfl⟩ := List.getElem_of_mem hx
    have hkm := List.length_eraseIdx (l := m) (i := i)
    rw [if_pos hi] at hkm
    have hp := List.pairwise_iff_getElem.1 Hinc.out
    rw [List.getElem_eraseIdx] at he
    split at he
    · have := hp k i (by omega) hi (by omega); omega
    · have := hp i (k + 1) hi (by omega) (by omega); omega⟩
  have hless : less.length ≤ 100 := by rw [← HL.out]; have := List.length_eraseIdx_le m i; omega
  clear hat4 hgr4 Hb3 HO3 HAT3 hs3
  go_wp2_with fail
  refine (cloneInts_any act bo cap' _ (H'.out.below HB4.out (Nat.le_refl _)) hnil (by omega)).mono ?_
  rintro e w5 ⟨⟨v, rfl, hown⟩, hb5⟩
  have HB5 := box (below_tr HB4.out hb5)
  have HAT5 := box (HAT4.out.below hb5 (Nat.le_refl _))
  have HLt5 := box (HLt4.out.below hb5 (Nat.le_refl _))
  have hs5 := hb5.size
  obtain ⟨i0, hi0, hz0, hz1, hz2⟩ := info_parts VacM.infoI
  have hown2 := hown.alloc (.cells #[.int .i64 now] 3)
  go_wp2_with (at_builtin; go_must (refine wpList_append_own _ rfl _ _ 31 rfl w4.heap.size 3 i0 _ 1 8 Try.underlying31 hi0 hz0 hz1 hz2 rfl (by decide) _ _ _ rfl hown2 ⟨w5.heap.size, 0, none⟩ 1 1 [.int .i64 now] rfl rfl (cells_new w5 [.int .i64 now] 3) (by simp [Value.oneCell']) (by unfold maxLen; omega) (by omega) (by simp; omega) ?_))
  intro v' w6 hown3 hgrow _
  have hb9 : ∀ j, v.ownBlock = some j → w4.heap.size ≤ j := fun j hj => (hown.lt j hj).1
  have Hb6 := box ((hb5.alloc hs5 (.cells #[.int .i64 now] 3)).grown hgrow (by simp; omega) (fun j hj => by have := hb9 j hj; omega))
  have HB6 := box (below_tr HB4.out Hb6.out)
  have HAT6 := box (HAT4.out.below Hb6.out (Nat.le_refl _))
  have HLt6 := box (HLt4.out.below Hb6.out (Nat.le_refl _))
  obtain ⟨S, HS⟩ : ∃ S, Box (act ++ [now] = S) := ⟨_, ⟨rfl⟩⟩
  have hSl : S.length = act.length + 1 := by rw [← HS.out]; simp
  have hown4 : w6.ownsRow w4.heap.size 3 1 v' S.length (intVals S) := by
    rw [← HS.out, intVals_append, List.length_append]; exact hown3
  obtain ⟨so, sc, rfl, _, hat6, _, hsc⟩ := IntsAt.own hown4
  have HS6 := box hat6
  rw [HS.out] at Hneed
  have hS13 : S.length ≤ 13 := by omega
  clear hown hown2 hown3 hown4 hgrow hb9 hat6 hSl hb5 HLt5 HAT5
  go_wp2_with fail
  go_loopw [63] (fun t63 wr => ∃ a : Nat, a ≤ S.length ∧ t63 = .int .i64 (a : Int) ∧ Box (Below w6.heap.size w6 wr) ∧ Box (∀ a' (h : a' < S.length), a' < a → ¬ VacM.good m i S[a'])) (fun t63 _ => S.length - (intOf t63).toNat)
  case atStart => exact ⟨0, Nat.zero_le _, rfl, ⟨Below.refl _ _⟩, ⟨fun a' _ h => by omega⟩⟩
  case round =>
    obtain ⟨a, ha, rfl, Hb, Hno⟩ := hrel
    have HBr := box (below_tr HB6.out Hb.out)
    by_cases hlt : a < S.length
    case neg =>
      exfalso
      obtain ⟨s, hs, hg⟩ := Hneed.out i hi
      obtain ⟨a', ha', rfl⟩ := List.getElem_of_mem hs
      exact Hno.out a' ha' (by omega) hg
    have HSr := box (HS6.out.below Hb.out (Nat.le_refl _))
    obtain ⟨b, off, rfl, hb, hrow⟩ := (HSr.out.resolve_left (by intro h; rw [h] at hlt; simp at hlt))
    have hc0 := hrow a hlt
    have HNx : Box (¬ VacM.good m i S[a] → ∀ a' (h : a' < S.length), a' < a + 1 → ¬ VacM.good m i S[a']) := ⟨fun h a' h1 h2 => by
      by_cases e : a' = a
      · subst e; exact h
      · exact Hno.out a' h1 (by omega)⟩
    clear hrow
    generalize S[a] = s at *
    have hbrs := HBr.out.size
    go_wp2_with fail
    go_loopw [69] (fun t69 wx => ∃ j : Nat, j ≤ m.length ∧ t69 = .int .i64 (j : Int) ∧ Box (Below w6.heap.size w6 wx) ∧ Box (i < j → ¬ VacM.good m i s)) (fun t69 _ => m.length - (intOf t69).toNat)
    case atStart => exact ⟨0, Nat.zero_le _, rfl, Hb, ⟨fun h => by omega⟩⟩
    case round =>
      obtain ⟨j, hj, rfl, Hbx, Hgj⟩ := hrel
      by_cases hltj : j < m.length
      case neg =>
        have HN2 := box (HNx.out (Hgj.out (by omega)))
        go_wp2_with fail
        go_roundw
        case rel => exact ⟨a + 1, hlt, by go_num, Hbx, HN2⟩
        case measure => simp [intOf]; omega
      have HATx := box (HAT6.out.below Hbx.out (Nat.le_refl _))
      have HLtx := box (HLt6.out.below Hbx.out (Nat.le_refl _))
      obtain ⟨kb, koff, rfl, hkb, hkrow⟩ := (HATx.out.resolve_left (by intro h; rw [h] at hltj; simp at hltj))
      obtain ⟨hd0, hd1⟩ := hkrow j hltj
      have HNext : Box (∀ h : i + 1 < m.length, wr.cell? ⟨kb, koff + (i + 1) * 2, none⟩ = some (.int .i64 m[i + 1].1)) := ⟨fun h => (hkrow (i + 1) h).1⟩
      have Hxj : Box (j = i → m[j].1 = (m[i]'hi).1) := ⟨fun e => by subst e; rfl⟩
      have hsx := Hbx.out.size
      clear hkrow hc0
      generalize m[j] = x at *
      obtain ⟨xa, xt⟩ := x
      simp only at hd0 hd1 Hxj
      go_upto_region 15 with (fail)
      refine name_world (fun W => Below wr.heap.size wr W ∧ Blk W wr.heap.size 68 [.int .i64 xa, .string xt]) ⟨(Below.refl _ _).alloc (Nat.le_refl _) _, Blk.new _ _ _⟩ ?_
      rintro W ⟨hbW, hkW⟩
      have HbW := box (Hbx.out.trans (hbW.mono hsx))
      have HKW := box hkW
      have HLtW := box (HLtx.out.below hbW (Nat.le_refl _))
      have HNextW : Box (∀ h : i + 1 < m.length, W.cell? ⟨kb, koff + (i + 1) * 2, none⟩ = some (.int .i64 m[i + 1].1)) := ⟨fun h => (hbW.cell (p := ⟨kb, koff + (i + 1) * 2, none⟩) hkb).trans (HNext.out h)⟩
      have y0 := hkW.cell (i := 0) rfl
      have HBW := box (below_tr HB6.out HbW.out)
      clear hbW hkW hd0 hd1
      obtain ⟨B, HBb⟩ : ∃ B, Box (wr.heap.size = B) := ⟨_, ⟨rfl⟩⟩
      rw [HBb.out] at y0 HKW ⊢
      by_cases hji : j = i
      case neg =>
        have q1 : ((j : Int) == (i : Int)) = false := by simp; omega
        have hgj : i < j + 1 → ¬ VacM.good m i s := fun h => Hgj.out (by omega)
        have HGJ := box hgj
        clear hgj hji
        go_wp2_with fail
        go_roundw
        case rel => exact ⟨j + 1, hltj, by go_num, HbW, HGJ⟩
        case measure => simp [intOf]; omega
      subst hji
      have Hxa := box (Hxj.out rfl)
      have q1 : ((j : Int) == (j : Int)) = true := by simp
      cases q2 : decide (xa ≤ s) with
      | false =>
        have HGJ : Box (j < j + 1 → ¬ VacM.good m j s) := ⟨fun _ ⟨h1, h2, _⟩ => by rw [← Hxa.out] at h2; simp at q2; omega⟩
        go_wp2_with fail
        go_roundw
        case rel => exact ⟨j + 1, hltj, by go_num, HbW, HGJ⟩
        case measure => simp [intOf]; omega
      | true =>
      have Hind := box (fun W2 (hW2 : Below W.heap.size W W2) => indexVers_none less (some ⟨g, 0, none⟩) gc 35 #[.pointer (some ⟨B, 0, none⟩)] W2 (HLtW.out.below hW2 (Nat.le_refl _)) (by omega)
        (fun x hx W3 hW3 => vacLeast_other x B xa xt W3 ((HKW.out.after hW2).after hW3) (by rw [Hxa.out]; exact HLne.out x hx)) (enters_fn Try.func35 (by kernel_rfl) rfl))
      cases q3 : ((j : Int) + 1 == (m.length : Int)) with
      | true =>
        go_wp2_with fail
        refine (Hind.out _ (Below.refl _ _)).mono ?_
        rintro e w9 ⟨rfl, hb9⟩
        have HB9 := box (below_tr HBW.out hb9)
        clear hb9
        go_wp2_with fail
        go_ret
        exact ⟨rfl, HB9.out⟩
      | false =>
        have hj1 : j + 1 < m.length := by simp at q3; omega
        have z0 := HNextW.out hj1
        have hj2 : (j : Int) + 1 < (m.length : Int) := by omega
        have hj3 : (0 : Int) ≤ (j : Int) + 1 := by omega
        have HGJ : Box (¬ s < m[j + 1].1 → j < j + 1 → ¬ VacM.good m j s) := ⟨fun h _ ⟨_, _, h3⟩ => h3 hj1 (by omega)⟩
        generalize m[j + 1].1 = za at *
        cases q4 : decide (s < za) with
        | true =>
          go_wp2_with fail
          refine (Hind.out _ (Below.refl _ _)).mono ?_
          rintro e w9 ⟨rfl, hb9⟩
          have HB9 := box (below_tr HBW.out hb9)
          clear hb9
          go_wp2_with fail
          go_ret
          exact ⟨rfl, HB9.out⟩
        | false =>
          have HGJ2 := box (HGJ.out (by simpa using q4))
          clear HGJ
          go_wp2_with fail
          go_roundw
          case rel => exact ⟨j + 1, hltj, by go_num, HbW, HGJ2⟩
          case measure => simp [intOf]; omega
namespace lawVacLeast
open Go.ChangeShapes Go.WideShapes Go.ChangeAt Go.RowKit Go.ChangeMaps

set_option maxRecDepth 100000 in
theorem lifted (os : Os) (started : os.Started) (H : Type) (enc : TypeId × Value → H) :
    ReturnsInHanded {} Try.checked os 8 .any (Rows.vacLeastSpec.pre6 enc Try.prog Try.f8 [] false) (Rows.vacLeastSpec.post enc Try.prog Try.f8 false true false false) := by
  refine LawKit.law_lifted started (by kernel_rfl) Try.func8 rfl
    (fun ds h => by
      match ds, h with
      | [_, _, _, _], _ => rfl)
    rfl Try.underlying4 (by intro t ht; exact of_decide_eq_true (p := Try.prog.readableRec t = true ∧ t < Try.prog.types.size) (by revert t ht; decide +kernel))
    (ChangeSpec.witness6 (enc := enc) (C := Try.checked) false ⟨#[], #[.slice none 0 0, .slice none 0 0, .int .i64 0, .int .i64 0], []⟩ 8 (by kernel_rfl) (by kernel_rfl) (by kernel_rfl) (by kernel_rfl)) ?_
  intro W base args ds ps hval hA hsz hlt hfz
  have hA' := hA
  rw [Try.params8] at hA hval
  obtain ⟨v0, vs0, d0, ds0, p0, q0, hargs, rfl, rfl, h0, r0⟩ := trodAll_cons hA
  obtain ⟨v1, vs1, d1, ds1, p1, q1, rfl, rfl, rfl, h1, r1⟩ := trodAll_cons r0
  obtain ⟨v2, vs2, d2, ds2, p2, q2, rfl, rfl, rfl, h2, r2⟩ := trodAll_cons r1
  obtain ⟨v3, vs3, d3, ds3, p3, q3, rfl, rfl, rfl, h3, r3⟩ := trodAll_cons r2
  obtain ⟨rfl, rfl, rfl⟩ := trodAll_nil r3
  obtain rfl : args = #[v0, v1, v2, v3] := by cases args; simp_all
  go_open 2 now
  go_open 3 at_
  obtain ⟨ao, cap, l, rfl, hnil, hat, hlen, hcap⟩ := open_vers (hval 0 _ _ rfl rfl) h0 (Open.weights_bound hsz (j := 0) (by rw [Try.params8]; rfl) rfl)
  obtain ⟨bo, cap2, act, rfl, hnil2, hat2, hlen2, hcap2, _⟩ := open_numbers (hval 1 _ _ rfl rfl) h1 (Open.weights_bound hsz (j := 1) (by rw [Try.params8]; rfl) rfl)
  refine (vacLeast_calls l act now at_ ao bo cap cap2 W hat hat2 (by omega) (by omega) hnil2).mono ?_
  rintro e W' ⟨rfl, hb⟩
  exact ⟨rfl, hb⟩

theorem proved : Rows.VacLeastSaid :=
  OpenClaim.holds_of_wide 8 Try.f8 rfl rfl rfl rfl rfl rfl rfl ⟨rfl, rfl, rfl, rfl, rfl⟩ rfl rfl rfl rfl rfl (by kernel_rfl) Try.func8 (by kernel_rfl)
    (of_decide_eq_true (by kernel_rfl)) (by unfold Func.isWrapper; first | (rw [if_pos (by decide +kernel)]; kernel_rfl) | (rw [if_neg (by decide +kernel)]; exact ⟨rfl, rfl⟩))
    (fun os started H enc _ => lifted os started H enc)
end lawVacLeast
end Go.Proofs.Ytlmibgjflgkalaa
