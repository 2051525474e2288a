/- FoldTells is proved for every input: whatever one or two bytes are other is told by the sum. -/
import Derived.Test.YtjkgfjnfikcmhaaLawKit
import Derived.Test.YtjkgfjnfikcmhaaFoldPut
namespace Go.Proofs.Ytjkgfjnfikcmhaa
open Go.RowKit Go.Lib

theorem put_a (w : World) : Calls Try.prog 13 #[.string { data := #[97] }] w fun e w' => e = .returned (.tuple #[.string { data := #[97, 0, 98, 0, 98] }, .int .i64 0]) ∧ Below w.heap.size w w' :=
  (put_any { data := #[97] } w (by decide)).mono fun e w' ⟨h1, h2⟩ => ⟨by rw [h1]; kernel_rfl, h2⟩
theorem CodeM'.extract_eq (s : ByteArray) (k n : Nat) : s.extract k (k + n) = ⟨((s.data.toList.drop k).take n).toArray⟩ := by
  obtain ⟨⟨l⟩⟩ := s
  rw [ByteArray.extract_mk]
  simp
theorem bytesAt_drew {W : World} {g : Nat} {l : List UInt8} (h : BytesAt W g l) : BytesAt W.drew g l := fun j hj => h j hj
theorem below_drew {w w' : World} {B : Nat} (h : Below B w w') : Below B w w'.drew := h.drew

set_option maxRecDepth 20000 in
set_option maxHeartbeats 4000000 in
theorem foldTells_go (s : ByteArray) (x y : Int) (a b : UInt8) (w : World) (h1 : 1 ≤ s.size) (h2 : s.size ≤ 4096) (i j : Nat) (hi : i < s.size) (hj : j < s.size)
    (hi' : (x % (s.size : Int)).toNat = i) (hj' : (y % (s.size : Int)).toNat = j) :
    Calls Try.prog 4 #[.string s, .int .i64 x, .int .i64 y, .int .u8 (a.toNat : Int), .int .u8 (b.toNat : Int)] w fun e w' => e = .returned (.bool true) ∧ Below w.heap.size w w' := by
  have d1 : decide ((4096 : Int) < (s.size : Int)) = false := by simp; omega
  have hlen : s.data.toList.length = s.size := rfl
  have d2 : (s.toList == []) = false := by
    rw [beq_eq_false_iff_ne, ByteArray.toList_eq]
    intro h
    rw [h] at hlen
    simp only [List.length_nil] at hlen; omega
  have d3 : s.toList.isEmpty = false := by
    rw [ByteArray.toList_eq]
    cases h : s.data.toList with
    | nil => rw [h] at hlen; simp only [List.length_nil] at hlen; omega
    | cons c l => rfl
  have hcv := fun w => run_bytes_of_string (P := Try.prog) w 9 30 5 s Try.underlying9 Try.underlying30 Try.underlying5
  clear hlen
  go_enter Try.func4, Try.ntmps4
  go_wp2_with fail
  refine (put_a _).mono ?_
  rintro e w1 ⟨rfl, hb1⟩
  have Hb1 := box hb1; clear hb1
  go_wp2_with fail
  have hu1 : BytesAt (w1.alloc (.cells (bytesRow s (grownCap w1 s.size 0 5)) 5 ((bytesRow s (grownCap w1 s.size 0 5)).size, (bytesRow s (grownCap w1 s.size 0 5)).size + 1))).drew w1.heap.size s.data.toList :=
    bytesAt_new w1 s (grownCap w1 s.size 0 5) 5
  have hB1 : Below w1.heap.size w1 (w1.alloc (.cells (bytesRow s (grownCap w1 s.size 0 5)) 5 ((bytesRow s (grownCap w1 s.size 0 5)).size, (bytesRow s (grownCap w1 s.size 0 5)).size + 1))).drew :=
    ((Below.refl _ _).alloc (Nat.le_refl _) _).drew
  have hS1 : w1.heap.size < (w1.alloc (.cells (bytesRow s (grownCap w1 s.size 0 5)) 5 ((bytesRow s (grownCap w1 s.size 0 5)).size, (bytesRow s (grownCap w1 s.size 0 5)).size + 1))).drew.heap.size := by simp
  generalize (w1.alloc (.cells (bytesRow s (grownCap w1 s.size 0 5)) 5 ((bytesRow s (grownCap w1 s.size 0 5)).size, (bytesRow s (grownCap w1 s.size 0 5)).size + 1))).drew = W1 at *
  generalize grownCap w1 s.size 0 5 = cap at *
  obtain ⟨B, HB⟩ : ∃ B, Box (w1.heap.size = B) := ⟨_, ⟨rfl⟩⟩
  rw [HB.out] at hu1 hS1 hB1 ⊢
  have HB1 := box hB1
  have hc1 := (hu1 i hi).1
  have hf1 := (hu1 i hi).2
  have Hu1 := box hu1
  clear hu1 hB1 hcv
  refine (rest_any x s.size _ h1 (by omega)).mono ?_
  rintro e w2 ⟨rfl, rfl⟩
  rw [hi']
  go_wp2_with fail
  have hu2 := bytesAt_set Hu1.out a hi
  have hB2 := HB1.out.setCell (p := ⟨B, i, none⟩) (Nat.le_refl _) (.int .u8 (a.toNat : Int))
  have hS2 : B < (W1.setCell ⟨B, i, none⟩ (.int .u8 (a.toNat : Int))).heap.size := by simpa using hS1
  clear hc1 hf1 hS1
  generalize W1.setCell ⟨B, i, none⟩ (.int .u8 (a.toNat : Int)) = W2 at *
  have hj2 : j < (s.data.toList.set i a).length := by rw [List.length_set]; exact hj
  have hc2 := (hu2 j hj2).1
  have hf2 := (hu2 j hj2).2
  have Hu2 := box hu2; have HB2 := box hB2
  clear hu2 hB2
  refine (rest_any y s.size _ h1 (by omega)).mono ?_
  rintro e w2 ⟨rfl, rfl⟩
  rw [hj']
  go_wp2_with fail
  have hu3 := bytesAt_set Hu2.out b hj2
  have hB3 := HB2.out.setCell (p := ⟨B, j, none⟩) (Nat.le_refl _) (.int .u8 (b.toNat : Int))
  have hS3 : B < (W2.setCell ⟨B, j, none⟩ (.int .u8 (b.toNat : Int))).heap.size := by simpa using hS2
  clear hc2 hf2 hS2
  generalize W2.setCell ⟨B, j, none⟩ (.int .u8 (b.toNat : Int)) = W3 at *
  obtain ⟨u, hu⟩ : ∃ u, (s.data.toList.set i a).set j b = u := ⟨_, rfl⟩
  rw [hu] at hu3
  have hul : u.length = s.size := by rw [← hu, List.length_set, List.length_set]; rfl
  have Hu3 := box hu3; have HB3 := box hB3; have Hu := box hu; have Hul := box hul
  clear hu3 hB3 hu hul
  refine (put_any s _ h2).mono ?_
  rintro e w4 ⟨rfl, hb4⟩
  have Hu4 := box (bytesAt_below Hu3.out hb4 hS3)
  have hS4 : B < w4.heap.size := Nat.lt_of_lt_of_le hS3 hb4.size
  have HB4 := box (HB3.out.trans (hb4.mono (Nat.le_of_lt hS3)))
  obtain ⟨T, hT⟩ : ∃ T, ByteArray.mk (s.data.toList ++ FoldSum.tail s.data.toList).toArray = T := ⟨_, rfl⟩
  have hTl : T.data.toList = s.data.toList ++ FoldSum.tail s.data.toList := by rw [← hT]
  have hTs : T.size = s.size + 4 := by rw [FoldSum.size_of T _ hTl, List.length_append]; rfl
  have hTx : T.extract s.size (s.size + 4) = ⟨(FoldSum.tail s.data.toList).toArray⟩ := by
    rw [CodeM'.extract_eq, hTl, show s.size = s.data.toList.length from rfl, List.drop_left]; rfl
  rw [hT]
  have HTl := box hTl
  clear hb4 hS3 hT hTl
  go_wp2_with fail
  refine (get_yes T s.data.toList _ HTl.out h2).mono ?_
  rintro e w5 ⟨rfl, hb5⟩
  have hu5 := bytesAt_below Hu4.out hb5 hS4
  have hS5 : B < w5.heap.size := Nat.lt_of_lt_of_le hS4 hb5.size
  have HB5 := box (HB4.out.trans (hb5.mono (Nat.le_of_lt hS4)))
  rw [show ByteArray.mk s.data.toList.toArray = s from rfl]
  have Hu5 := box hu5
  have hU : ByteArray.size ⟨u.toArray⟩ = s.size := Hul.out
  obtain ⟨Z, hZ⟩ : ∃ Z, ByteArray.mk u.toArray ++ ByteArray.mk (FoldSum.tail s.data.toList).toArray = Z := ⟨_, rfl⟩
  have HZ : Box (Z.data.toList = u ++ FoldSum.tail s.data.toList) := ⟨by rw [← hZ]; simp⟩
  have hTL : ByteArray.size ⟨(FoldSum.tail s.data.toList).toArray⟩ = 4 := rfl
  have hcvA : ∀ W, BytesAt W B u → Sem.run Try.prog (convert 30 9 (.slice (some ⟨B, 0, none⟩) s.size cap)) W = .ok (.string ⟨u.toArray⟩) W := fun W hW => by
    have := bytesAt_conv (P := Try.prog) (cap := cap) hW 30 9 5 Try.underlying30 Try.underlying5 Try.underlying9
    rw [Hul.out] at this; exact this
  have hsl : ∀ w' : World, (Instr.slice 9 (.string T) (some (.int .i64 (s.size : Int))) none none).run Try.prog w' = .ok (.string ⟨(FoldSum.tail s.data.toList).toArray⟩) w' := fun w' => by
    rw [run_slice_string_l (P := Try.prog) w' 9 T Try.underlying9 .i64 (s.size : Int) (by omega) (by omega), hTs, Int.toNat_natCast, hTx]
  have hcat : ∀ w' : World, (Op.stringOp .add (ByteArray.mk u.toArray) (ByteArray.mk (FoldSum.tail s.data.toList).toArray)).run Try.prog w' = .ok (.string Z) w' := fun w' => by
    rw [run_string_add_sum _ _ _ (by rw [hU, hTL]; omega), hZ]
  generalize ByteArray.mk (FoldSum.tail s.data.toList).toArray = TL at *
  generalize hUU : ByteArray.mk u.toArray = U at *
  have HUU := box hUU
  have hcv5 := hcvA w5 Hu5.out
  have hcv5d := hcvA w5.drew (fun j hj => Hu5.out j hj)
  have HcvA := box hcvA
  clear hb5 hS4 hu5 hUU hcvA hTx hZ hTL hU
  -- what the last page says: who is the same
  obtain ⟨p, hp⟩ : ∃ p : Bool, decide (u = s.data.toList) = p := ⟨_, rfl⟩
  have hsame : u = s.data.toList ↔ p = true := by rw [← hp]; simp
  have hsum : FoldSum.sum u = FoldSum.sum s.data.toList → u = s.data.toList := fun h => by
    rw [← Hu.out]
    exact FoldSum.tells _ i j a b h2 hi hj (by rw [Hu.out]; exact FoldSum.sum_inj h)
  obtain ⟨V, g, hget, hg⟩ : ∃ (V : ByteArray) (g : Int), (∀ w, Calls Try.prog 15 #[.string Z] w fun e w' => e = .returned (.tuple #[.string V, .int .i64 g]) ∧ Below w.heap.size w w') ∧ (g == 0) = p := by
    by_cases he : FoldSum.tail u = FoldSum.tail s.data.toList
    · have : p = true := hsame.1 (hsum (FoldSum.tail_inj he))
      subst this
      exact ⟨_, 0, fun w => get_yes Z u w (by rw [HZ.out, he]) (by rw [Hul.out]; exact h2), by simp⟩
    · have : p = false := by
        cases p with
        | false => rfl
        | true => exact absurd (by rw [hsame.2 rfl]) he
      subst this
      exact ⟨_, 5, fun w => get_no Z u _ w HZ.out rfl (by rw [Hul.out]; exact h2) he, by simp⟩
  have q1 : (U.toList == s.toList) = p := by
    rw [← hp, ByteArray.toList_eq, ByteArray.toList_eq, ← HUU.out]
    rw [Bool.eq_iff_iff]; simp
  have q2 : (FoldSum.sum u == FoldSum.sum s.data.toList) = p := by
    cases p with
    | true => rw [hsame.2 rfl]; simp
    | false =>
      rw [beq_eq_false_iff_ne]
      exact fun h => absurd (hsame.1 (hsum h)) (by simp)
  have Hget := box hget
  clear hget hsame hsum hp
  go_wp2_with fail
  go_region_held3 (fun w' => Sem.run Try.prog (convert 30 9 (.slice (some ⟨B, 0, none⟩) s.size cap)) w' = .ok (.string U) w') (first | exact hcv5 | exact hcv5d | assumption) (first | (go_at_call 15; refine (Hget.out _).mono ?_; rintro e w6 ⟨rfl, hb6⟩; have Hb6 := box hb6; have hu6 := bytesAt_below (bytesAt_drew Hu5.out) hb6 hS5; have hcv6 := HcvA.out w6 hu6; have Hu6 := box hu6; clear hb6 hu6))
  clear hcv5 hcv5d hsl hcat hTs
  have HS5 := box hS5
  clear hS5
  go_wp2_with fail
  refine (sum_any U _ (by unfold maxLen; rw [← HUU.out]; have := Hul.out; show u.length ≤ _; omega)).mono ?_
  rintro e w7 ⟨rfl, rfl⟩
  rw [← HUU.out]
  go_wp2_with fail
  refine (sum_any s _ (by unfold maxLen; omega)).mono ?_
  rintro e w7 ⟨rfl, rfl⟩
  go_wp2_with fail
  go_ret
  refine ⟨?_, Hb1.out.trans ((HB5.out.drew.trans (Hb6.out.mono (Nat.le_of_lt HS5.out))).mono (by rw [← HB.out]; exact Hb1.out.size))⟩
  rfl

set_option maxHeartbeats 1000000 in
theorem foldTells_early (s : ByteArray) (x y : Int) (a b : UInt8) (w : World) (h : 4096 < s.size ∨ s.size = 0) :
    Calls Try.prog 4 #[.string s, .int .i64 x, .int .i64 y, .int .u8 (a.toNat : Int), .int .u8 (b.toNat : Int)] w fun e w' => e = .returned (.bool true) ∧ Below w.heap.size w w' := by
  rcases h with h | h
  · have d1 : decide ((4096 : Int) < (s.size : Int)) = true := by simp; omega
    have H := box h; clear h
    go_enter Try.func4, Try.ntmps4
    go_wp2_with fail
    refine (put_a _).mono ?_
    rintro e w1 ⟨rfl, hb1⟩
    have Hb1 := box hb1; clear hb1
    go_wp2_with fail
    go_ret
    exact ⟨rfl, Hb1.out⟩
  · obtain rfl : s = ⟨#[]⟩ := by
      obtain ⟨⟨l⟩⟩ := s
      have : l.length = 0 := h
      rw [List.eq_nil_of_length_eq_zero this]
    have d3 : (ByteArray.mk #[]).toList.isEmpty = true := by rw [ByteArray.toList_eq]; rfl
    clear h
    go_enter Try.func4, Try.ntmps4
    go_wp2_with fail
    refine (put_a _).mono ?_
    rintro e w1 ⟨rfl, hb1⟩
    have Hb1 := box hb1; clear hb1
    go_wp2_with fail
    go_ret
    exact ⟨rfl, Hb1.out⟩

theorem foldTells_calls (s : ByteArray) (x y : Int) (a b : UInt8) (w : World) :
    Calls Try.prog 4 #[.string s, .int .i64 x, .int .i64 y, .int .u8 (a.toNat : Int), .int .u8 (b.toNat : Int)] w fun e w' => e = .returned (.bool true) ∧ Below w.heap.size w w' := by
  by_cases h : 4096 < s.size ∨ s.size = 0
  · exact foldTells_early s x y a b w h
  · have hlt : ∀ z : Int, (z % (s.size : Int)).toNat < s.size := fun z => by
      have h1 := Int.emod_nonneg z (show (s.size : Int) ≠ 0 by omega)
      have h2 := Int.emod_lt_of_pos z (show (0 : Int) < s.size by omega)
      omega
    exact foldTells_go s x y a b w (by omega) (by omega) _ _ (hlt x) (hlt y) rfl rfl

namespace lawFoldTells
open Go.ChangeShapes Go.WideShapes Go.ChangeAt Go.RowKit Go.ChangeMaps

set_option maxRecDepth 100000 in
theorem lifted (os : Os) (started : os.Started) (H : Type) (enc : TypeId × Value → H) :
    ReturnsInHanded {} Try.checked os 4 .any (Rows.foldTellsSpec.pre6 enc Try.prog Try.f4 [] false) (Rows.foldTellsSpec.post enc Try.prog Try.f4 false true false false) := by
  refine LawKit.law_lifted started (by kernel_rfl) Try.func4 rfl
    (fun ds h => by
      match ds, h with
      | [_, _, _, _, _], _ => rfl)
    rfl Try.underlying4 (by intro t ht; exact of_decide_eq_true (p := Try.prog.readableRec t = true ∧ t < Try.prog.types.size) (by revert t ht; decide +kernel))
    (ChangeSpec.witness6 (enc := enc) (C := Try.checked) false ⟨#[], #[.string ⟨#[]⟩, .int .i64 0, .int .i64 0, .int .u8 0, .int .u8 0], []⟩ 8 (by kernel_rfl) (by kernel_rfl) (by kernel_rfl) (by kernel_rfl)) ?_
  intro W base args ds ps hval hA hsz hlt hfz
  have hA' := hA
  rw [Try.params4] at hA hval
  obtain ⟨v0, vs0, d0, ds0, p0, q0, hargs, rfl, rfl, h0, r0⟩ := trodAll_cons hA
  obtain ⟨v1, vs1, d1, ds1, p1, q1, rfl, rfl, rfl, h1, r1⟩ := trodAll_cons r0
  obtain ⟨v2, vs2, d2, ds2, p2, q2, rfl, rfl, rfl, h2, r2⟩ := trodAll_cons r1
  obtain ⟨v3, vs3, d3, ds3, p3, q3, rfl, rfl, rfl, h3, r3⟩ := trodAll_cons r2
  obtain ⟨v4, vs4, d4, ds4, p4, q4, rfl, rfl, rfl, h4, r4⟩ := trodAll_cons r3
  obtain ⟨rfl, rfl, rfl⟩ := trodAll_nil r4
  obtain rfl : args = #[v0, v1, v2, v3, v4] := by cases args; simp_all
  go_open 0 s
  have hsz_s : s.size ≤ reachBytes := by have h := sized_string hsz (j := 0) (by rw [Try.params4]; rfl) rfl; rw [Array.length_toList] at h; exact h
  go_open 1 i
  go_open 2 j
  go_open 3 a
  go_open 4 b
  have en : ∀ z : Int, 0 ≤ z → z ≤ 255 → ∃ c : UInt8, z = (c.toNat : Int) := fun z h1 h2 => ⟨UInt8.ofNat z.toNat, by simp [UInt8.toNat_ofNat']; omega⟩
  obtain ⟨ca, rfl⟩ := en a bd_a.1 bd_a.2
  obtain ⟨cb, rfl⟩ := en b bd_b.1 bd_b.2
  refine (foldTells_calls s i j ca cb W).mono ?_
  rintro e W' ⟨rfl, hb⟩
  exact ⟨rfl, hb⟩

theorem proved : Rows.FoldTellsSaid :=
  OpenClaim.holds_of_wide 4 Try.f4 rfl rfl rfl rfl rfl rfl rfl ⟨rfl, rfl, rfl, rfl, rfl⟩ rfl rfl rfl rfl rfl (by kernel_rfl) Try.func4 (by kernel_rfl)
    (of_decide_eq_true (by kernel_rfl)) (by unfold Func.isWrapper; first | (rw [if_pos (by decide +kernel)]; kernel_rfl) | (rw [if_neg (by decide +kernel)]; exact ⟨rfl, rfl⟩))
    (fun os started H enc _ => lifted os started H enc)
end lawFoldTells
end Go.Proofs.Ytjkgfjnfikcmhaa
