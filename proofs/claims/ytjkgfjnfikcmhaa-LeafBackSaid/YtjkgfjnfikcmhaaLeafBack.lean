/- LeafBack is proved for every input: a page is read as it was written; what is read is written as just those bytes. -/
import Derived.Test.YtjkgfjnfikcmhaaLawKit
import Derived.Test.YtjkgfjnfikcmhaaLeafRead
import Derived.Test.YtjkgfjnfikcmhaaLeafOpen
import Derived.Test.YtjkgfjnfikcmhaaLeafSame
namespace Go.Proofs.Ytjkgfjnfikcmhaa
open Go.RowKit Go.Lib

theorem text_ab (b cap : Nat) (w : World) (hb : b < w.heap.size) (h : SlotsAt w b 0 [(false, { data := #[] }), (true, { data := #[97, 98] })]) :
    Calls Try.prog 30 #[.agg #[.slice (some ⟨b, 0, none⟩) 2 cap]] w fun e w' => e = .returned (.tuple #[.string { data := #[2, 0, 3, 97, 98] }, .int .i64 0]) ∧ Below w.heap.size w w' :=
  (text_any [(false, { data := #[] }), (true, { data := #[97, 98] })] (some ⟨b, 0, none⟩) cap w (Or.inr ⟨b, 0, rfl, hb, h⟩) ⟨by simp, by intro s hs; simp at hs; rcases hs with rfl | rfl <;> decide⟩).mono
    fun e w' ⟨h1, h2⟩ => ⟨by rw [h1]; rfl, h2⟩

set_option maxRecDepth 20000 in
set_option maxHeartbeats 4000000 in
theorem leafBack_calls (ls : List (Bool × ByteArray)) (ao : Option Addr) (cap : Nat) (s : ByteArray) (w : World) (h : LeafM.At w ao ls) (hf : LeafM.Fits ls) (hs : s.size ≤ 140737488355328) :
    Calls Try.prog 10 #[.agg #[.slice ao ls.length cap], .string s] w fun e w' => e = .returned (.bool true) ∧ Below w.heap.size w w' := by
  have H := box h; have Hf := box hf; have Hs := box hs
  clear h hf hs
  go_enter Try.func10, Try.ntmps10
  go_wp2_with fail
  refine (text_ab (w.heap.size + 1) 2 _ (by simp) (by
    intro k hk
    match k, hk with
    | 0, _ => exact ⟨by go_simp, by go_simp⟩
    | 1, _ => exact ⟨by go_simp, by go_simp⟩)).mono ?_
  rintro e w2 ⟨rfl, hb2⟩
  have hc2 : w2.cell? ⟨w.heap.size, 0, none⟩ = some (.slice ao ls.length cap) := (hb2.cell (p := ⟨w.heap.size, 0, none⟩) (by simp; omega)).trans (by go_simp)
  have HB2 : Box (Below w.heap.size w w2) := ⟨(((Below.refl w.heap.size w).alloc (Nat.le_refl _) _).alloc (by simp) _).trans (hb2.mono (by simp; omega))⟩
  have Hs2 : Box (w.heap.size < w2.heap.size) := ⟨by have h3 := hb2.size; rw [World.size_alloc, World.size_alloc] at h3; omega⟩
  clear hb2
  have hsE : (({ data := #[2, 0, 3, 97, 98] } : ByteArray).toList == ({ data := #[2, 0, 3, 97, 98] } : ByteArray).toList) = true := by simp
  go_wp2_with fail
  refine (text_any ls ao cap _ (H.out.below HB2.out (Nat.le_refl _)) Hf.out).mono ?_
  rintro e w3 ⟨rfl, hb3⟩
  have hc3 := (hb3.cell (p := ⟨w.heap.size, 0, none⟩) Hs2.out).trans hc2
  have HB3 := box (HB2.out.trans (hb3.mono (Nat.le_of_lt Hs2.out)))
  have Hs3 := box (Nat.lt_of_lt_of_le Hs2.out hb3.size)
  clear hb3 hc2
  by_cases h0 : LeafM.check ls = 0
  case neg =>
    have g1 : (LeafM.check ls == 0) = false := by simp [h0]
    have HBW := HB3
    have HsW := box (Nat.le_of_lt Hs3.out)
    rw [LeafM.textV, if_neg h0]
    clear hc3 h0

    -- the second half, from world WW
    go_wp2_with fail
    refine (read_any s _ Hs.out).mono ?_
    rintro e w6 ⟨hb6, hp⟩
    have HB6 : Box (Below w.heap.size w w6) := ⟨HBW.out.trans (hb6.mono HsW.out)⟩
    have Hs6 : Box (w.heap.size ≤ w6.heap.size) := ⟨Nat.le_trans HsW.out hb6.size⟩
    clear hb6
    rcases hp with ⟨hnone, rfl⟩ | ⟨l2, ao2, cap2, hsome, rfl, hat2, hfit2⟩
    · clear hnone
      go_wp2_with fail
      refine (text_any [] none 0 _ (Or.inl rfl) ⟨by simp, by simp⟩).mono ?_
      rintro e w7 ⟨rfl, hb7⟩
      have hc7 : w7.cell? ⟨w6.heap.size, 0, none⟩ = some (.slice none 0 0) := (hb7.cell (p := ⟨w6.heap.size, 0, none⟩) (by simp)).trans (by go_simp)
      have HB7 : Box (Below w.heap.size w w7) := ⟨(HB6.out.alloc Hs6.out _).trans (hb7.mono (by rw [World.size_alloc]; have := Hs6.out; omega))⟩
      clear hb7
      rw [show LeafM.textV [] = .tuple #[.string { data := #[0] }, .int .i64 0] from rfl]
      go_wp2_with fail
      go_ret
      exact ⟨rfl, HB7.out⟩
    · obtain ⟨hck2, htx2⟩ := LeafM.read_ok hsome
      have Hat2 := box hat2; have Hfit2 := box hfit2; have Hck2 := box hck2; have Htx2 := box htx2
      clear hsome hat2 hfit2 hck2 htx2
      go_wp2_with fail
      refine (text_any l2 ao2 cap2 _ (Hat2.out.below ((Below.refl _ _).alloc (Nat.le_refl _) _) (Nat.le_refl _)) Hfit2.out).mono ?_
      rintro e w7 ⟨rfl, hb7⟩
      have HB7 : Box (Below w.heap.size w w7) := ⟨(HB6.out.alloc Hs6.out _).trans (hb7.mono (by rw [World.size_alloc]; have := Hs6.out; omega))⟩
      clear hb7
      rw [show LeafM.textV l2 = .tuple #[.string s, .int .i64 0] by rw [LeafM.textV, if_pos Hck2.out, Htx2.out]]
      have hss : (s.toList == s.toList) = true := by simp
      go_wp2_with fail
      go_ret
      exact ⟨rfl, HB7.out⟩
  case pos =>
    have Hrd := box (LeafM.read_text h0)
    have Hln : Box ((LeafM.text ls).length ≤ 512) := ⟨by rw [LeafM.text_len]; exact (LeafM.check_le h0).2.2.2⟩
    have Hn40 := box (LeafM.check_le h0).1
    rw [LeafM.textV, if_pos h0]
    have HTs := CodeM.mk_size (LeafM.text ls)
    have hTd : Box ((ByteArray.mk (LeafM.text ls).toArray).data.toList = LeafM.text ls) := ⟨rfl⟩
    generalize ByteArray.mk (LeafM.text ls).toArray = T at *
    have hT5 : T.size ≤ 512 := by have := Hln.out; omega
    have hd : decide ((512 : Int) < (T.size : Int)) = false := by simp; omega
    clear HTs h0
    go_wp2_with fail
    refine (read_any T _ (by omega)).mono ?_
    rintro e w4 ⟨hb4, hp⟩
    have hc4 := (hb4.cell (p := ⟨w.heap.size, 0, none⟩) Hs3.out).trans hc3
    have HB4 := box (HB3.out.trans (hb4.mono (Nat.le_of_lt Hs3.out)))
    have Hs4 := box (Nat.lt_of_lt_of_le Hs3.out hb4.size)
    clear hb4 hc3
    rw [hTd.out, Hrd.out] at hp
    obtain ⟨l1, ao1, cap1, he1, rfl, hat1, hfit1⟩ := hp.resolve_left (by simp)
    have he1 := Option.some.inj he1
    subst he1
    have Hat1 := box hat1
    clear hp hat1 hfit1
    have hs4 := Hs4.out
    have hc5 : (w4.alloc (.cells #[.slice ao1 ls.length cap1] 51)).cell? ⟨w.heap.size, 0, none⟩ = some (.slice ao ls.length cap) := by rw [World.cell?_alloc_past (hn := hs4)]; exact hc4
    clear hc4 hs4
    go_wp2_with fail
    refine (same_any ls ls ao ao1 cap cap1 _ (H.out.below (HB4.out.alloc (Nat.le_of_lt Hs4.out) _) (Nat.le_refl _)) (Hat1.out.below ((Below.refl _ _).alloc (Nat.le_refl _) _) (Nat.le_refl _)) rfl (by have := Hn40.out; omega)).mono ?_
    rintro e w5 ⟨rfl, hb5⟩
    rw [decide_eq_true (rfl : ls = ls)]
    have HBW : Box (Below w.heap.size w w5) := ⟨(HB4.out.alloc (Nat.le_of_lt Hs4.out) _).trans (hb5.mono (by rw [World.size_alloc]; have := Hs4.out; omega))⟩
    have HsW : Box (w.heap.size ≤ w5.heap.size) := ⟨by have h3 := hb5.size; rw [World.size_alloc] at h3; have := Hs4.out; omega⟩
    clear hb5 hc5

    -- the second half, from world WW
    go_wp2_with fail
    refine (read_any s _ Hs.out).mono ?_
    rintro e w6 ⟨hb6, hp⟩
    have HB6 : Box (Below w.heap.size w w6) := ⟨HBW.out.trans (hb6.mono HsW.out)⟩
    have Hs6 : Box (w.heap.size ≤ w6.heap.size) := ⟨Nat.le_trans HsW.out hb6.size⟩
    clear hb6
    rcases hp with ⟨hnone, rfl⟩ | ⟨l2, ao2, cap2, hsome, rfl, hat2, hfit2⟩
    · clear hnone
      go_wp2_with fail
      refine (text_any [] none 0 _ (Or.inl rfl) ⟨by simp, by simp⟩).mono ?_
      rintro e w7 ⟨rfl, hb7⟩
      have hc7 : w7.cell? ⟨w6.heap.size, 0, none⟩ = some (.slice none 0 0) := (hb7.cell (p := ⟨w6.heap.size, 0, none⟩) (by simp)).trans (by go_simp)
      have HB7 : Box (Below w.heap.size w w7) := ⟨(HB6.out.alloc Hs6.out _).trans (hb7.mono (by rw [World.size_alloc]; have := Hs6.out; omega))⟩
      clear hb7
      rw [show LeafM.textV [] = .tuple #[.string { data := #[0] }, .int .i64 0] from rfl]
      go_wp2_with fail
      go_ret
      exact ⟨rfl, HB7.out⟩
    · obtain ⟨hck2, htx2⟩ := LeafM.read_ok hsome
      have Hat2 := box hat2; have Hfit2 := box hfit2; have Hck2 := box hck2; have Htx2 := box htx2
      clear hsome hat2 hfit2 hck2 htx2
      go_wp2_with fail
      refine (text_any l2 ao2 cap2 _ (Hat2.out.below ((Below.refl _ _).alloc (Nat.le_refl _) _) (Nat.le_refl _)) Hfit2.out).mono ?_
      rintro e w7 ⟨rfl, hb7⟩
      have HB7 : Box (Below w.heap.size w w7) := ⟨(HB6.out.alloc Hs6.out _).trans (hb7.mono (by rw [World.size_alloc]; have := Hs6.out; omega))⟩
      clear hb7
      rw [show LeafM.textV l2 = .tuple #[.string s, .int .i64 0] by rw [LeafM.textV, if_pos Hck2.out, Htx2.out]]
      have hss : (s.toList == s.toList) = true := by simp
      go_wp2_with fail
      go_ret
      exact ⟨rfl, HB7.out⟩
namespace lawLeafBack
open Go.ChangeShapes Go.WideShapes Go.ChangeAt Go.RowKit Go.ChangeMaps

set_option maxRecDepth 100000 in
theorem lifted (os : Os) (started : os.Started) (H : Type) (enc : TypeId × Value → H) :
    ReturnsInHanded {} Try.checked os 10 .any (Rows.leafBackSpec.pre6 enc Try.prog Try.f10 [] false) (Rows.leafBackSpec.post enc Try.prog Try.f10 false true false false) := by
  refine LawKit.law_lifted started (by kernel_rfl) Try.func10 rfl
    (fun ds h => by
      match ds, h with
      | [_, _], _ => rfl)
    rfl Try.underlying4 (by intro t ht; exact of_decide_eq_true (p := Try.prog.readableRec t = true ∧ t < Try.prog.types.size) (by revert t ht; decide +kernel))
    (ChangeSpec.witness6 (enc := enc) (C := Try.checked) false ⟨#[], #[.agg #[.slice none 0 0], .string ⟨#[]⟩], []⟩ 8 (by kernel_rfl) (by kernel_rfl) (by kernel_rfl) (by kernel_rfl)) ?_
  intro W base args ds ps hval hA hsz hlt hfz
  have hA' := hA
  rw [Try.params10] at hA hval
  obtain ⟨v0, vs0, d0, ds0, p0, q0, hargs, rfl, rfl, h0, r0⟩ := trodAll_cons hA
  obtain ⟨v1, vs1, d1, ds1, p1, q1, rfl, rfl, rfl, h1, r1⟩ := trodAll_cons r0
  obtain ⟨rfl, rfl, rfl⟩ := trodAll_nil r1
  obtain rfl : args = #[v0, v1] := by cases args; simp_all
  go_open 1 s
  have hsz_s : s.size ≤ reachBytes := by have h := sized_string hsz (j := 1) (by rw [Try.params10]; rfl) rfl; rw [Array.length_toList] at h; exact h
  obtain ⟨ao, cap, ls, rfl, hnil, hat, hfits, _, _⟩ := open_leaf (hval 0 _ _ rfl rfl) h0 (Open.weights_bound hsz (j := 0) (by rw [Try.params10]; rfl) rfl)
  refine (leafBack_calls ls ao cap s W hat hfits (by have := reachBytes_lt; omega)).mono ?_
  rintro e W' ⟨rfl, hb⟩
  exact ⟨rfl, hb⟩

theorem proved : Rows.LeafBackSaid :=
  OpenClaim.holds_of_wide 10 Try.f10 rfl rfl rfl rfl rfl rfl rfl ⟨rfl, rfl, rfl, rfl, rfl⟩ rfl rfl rfl rfl rfl (by kernel_rfl) Try.func10 (by kernel_rfl)
    (of_decide_eq_true (by kernel_rfl)) (by unfold Func.isWrapper; first | (rw [if_pos (by decide +kernel)]; kernel_rfl) | (rw [if_neg (by decide +kernel)]; exact ⟨rfl, rfl⟩))
    (fun os started H enc _ => lifted os started H enc)
end lawLeafBack
end Go.Proofs.Ytjkgfjnfikcmhaa
