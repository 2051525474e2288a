/- wal.epochOf: walked. -/
import Derived.Test.YtpeaefeoogcepaaDoorWalW2
import Derived.Test.YtpeaefeoogcepaaDoorSectX
import Derived.Test.YtpeaefeoogcepaaDoorShTrim
namespace Go.Proofs.YtpeaefeoogcepaaDoor
open Go.RowKit Go.Lib
open WalM

namespace WalM
/-- The number that a sector's anchor bears. -/
def ancN (l : List UInt8) : Int := if (CodeM.getNat (l.drop 1)).2.2 = 0 then CodeM.zag (CodeM.getNat (l.drop 1)).1 else 0
/-- What epochOf answers. -/
def epochOf (l : List UInt8) : Int × Int :=
  if Lib.trimB l 0 = [] then (0, 0)
  else if (CodeM.getNat (l.drop 1)).2.2 ≠ 0 ∨ ancN l < 0 ∨ 1000000 < ancN l ∨ pad (anchor (ancN l)) ≠ l then (0, 4)
  else (ancN l, 0)
end WalM
set_option maxRecDepth 20000 in
set_option maxHeartbeats 4000000 in
theorem walEpochOf_any (l : List UInt8) (w : World) (hl : l.length = 64) :
    Calls Tryd.prog 21 #[.string (BA l)] w fun e w' => e = .returned (.tuple #[.int .i64 (epochOf l).1, .int .i64 (epochOf l).2]) ∧ Below w.heap.size w w' := by
  have HT := box (Tryd.strings_Trim_one (BA l) 0 (by decide) w (by rw [BA_size]; omega))
  rw [BA_list] at HT
  have hd : (BA l).extract 1 64 = BA (l.drop 1) := by have := BA_drop l 1 (by omega); rw [hl] at this; exact this
  have hs : (BA l).size = 64 := by rw [BA_size, hl]
  by_cases ht : Lib.trimB l 0 = []
  · have q1 : (BA (Lib.trimB l 0)).toList.isEmpty = true := BA_empty ht
    have HE : Box (epochOf l = (0, 0)) := ⟨by unfold epochOf; rw [if_pos ht]⟩
    rw [show (⟨(Lib.trimB l 0).toArray⟩ : ByteArray) = BA (Lib.trimB l 0) from rfl] at HT
    clear ht
    generalize BA (Lib.trimB l 0) = T at *
    generalize BA l = S at *
    go_enter Tryd.func21, Tryd.ntmps21
    go_wp2_with fail
    refine HT.out.mono ?_
    rintro e w1 ⟨rfl, hw⟩
    have HB : Box (Below w.heap.size w w1) := ⟨by rcases hw with rfl | rfl; exact Below.refl _ _; exact (Below.refl _ _).drew⟩
    clear hw HT
    go_wp2_with fail
    go_ret2
    exact ⟨by rw [HE.out]; rfl, HB.out⟩
  have q1 : (BA (Lib.trimB l 0)).toList.isEmpty = false := BA_full ht
  rw [show (⟨(Lib.trimB l 0).toArray⟩ : ByteArray) = BA (Lib.trimB l 0) from rfl] at HT
  have HG := box (fun w => getInt_any (BA (l.drop 1)) w (by rw [BA_size, List.length_drop]; omega))
  rw [BA_list] at HG
  have HE0 : Box (epochOf l = if (CodeM.getNat (l.drop 1)).2.2 ≠ 0 ∨ ancN l < 0 ∨ 1000000 < ancN l ∨ pad (anchor (ancN l)) ≠ l then (0, 4) else (ancN l, 0)) := ⟨by unfold epochOf; rw [if_neg ht]⟩
  have HAn : Box (ancN l = if (CodeM.getNat (l.drop 1)).2.2 = 0 then CodeM.zag (CodeM.getNat (l.drop 1)).1 else 0) := ⟨rfl⟩
  obtain ⟨u, a, c, hx⟩ : ∃ u a c, CodeM.getNat (l.drop 1) = (u, a, c) := ⟨_, _, _, rfl⟩
  rw [hx] at HG HE0 HAn
  dsimp only at HE0 HAn
  clear ht
  by_cases hc : c = 0
  case neg =>
    have HE : Box (epochOf l = (0, 4)) := ⟨by rw [HE0.out, if_pos (Or.inl hc)]⟩
    have htu : CodeM.tupI (u, a, c) = .tuple #[.int .i64 0, .int .i64 0, .int .i64 c] := by unfold CodeM.tupI; rw [if_neg hc]
    rw [htu] at HG
    have q2 : (c != 0) = true := by simpa using hc
    have HAc := box (fun (w : World) => walAnchor_any 0 w ⟨by omega, by omega⟩)
    clear hc htu hx HE0 HAn
    generalize BA (anchor 0) = A0 at *
    generalize BA (Lib.trimB l 0) = T at *
    generalize BA (l.drop 1) = R at *
    generalize BA l = S at *
    go_enter Tryd.func21, Tryd.ntmps21
    go_wp2_with fail
    refine HT.out.mono ?_
    rintro e w1 ⟨rfl, hw⟩
    have HB : Box (Below w.heap.size w w1) := ⟨by rcases hw with rfl | rfl; exact Below.refl _ _; exact (Below.refl _ _).drew⟩
    clear hw HT
    go_wp2_with fail
    refine (HG.out _).mono ?_
    rintro e w2 ⟨rfl, rfl⟩
    go_wp2_with fail
    refine (HAc.out _).mono ?_
    rintro e w3 ⟨rfl, hb3⟩
    have HB3 := box (below_tr HB.out hb3)
    clear hb3 HG HAc
    go_wp2_with fail
    go_ret2
    exact ⟨by rw [HE.out]; rfl, HB3.out⟩
  subst hc
  have hzu := zag_i64 (CodeM.get_ok hx).2.2.1
  have htu : CodeM.tupI (u, a, 0) = .tuple #[.int .i64 (CodeM.zag u), .int .i64 (a : Int), .int .i64 0] := by unfold CodeM.tupI; rw [if_pos rfl]
  rw [htu] at HG
  rw [if_pos rfl] at HAn
  rw [HAn.out] at HE0
  have HAc := box (fun (w : World) => walAnchor_any (CodeM.zag u) w hzu)
  have hal : (anchor (CodeM.zag u)).length ≤ 15 := by
    have := anchor_len (CodeM.zag u)
    unfold anchor; rw [List.length_cons]; omega
  obtain ⟨k, hk⟩ : ∃ k, Box ((anchor (CodeM.zag u)).length = k) := ⟨_, ⟨rfl⟩⟩
  have HPd : Box (BA (anchor (CodeM.zag u)) ++ SectM.zeros (64 - k) = BA (pad (anchor (CodeM.zag u)))) := ⟨by
    rw [show SectM.zeros (64 - k) = BA (List.replicate (64 - k) 0) from rfl, BA_append, ← hk.out]; rfl⟩
  have hpl : (pad (anchor (CodeM.zag u))).length = 64 := pad_len (by omega)
  obtain ⟨p, hp⟩ : ∃ p, Box (decide (pad (anchor (CodeM.zag u)) = l) = p) := ⟨_, ⟨rfl⟩⟩
  have q3 : ((BA (pad (anchor (CodeM.zag u)))).toList == (BA l).toList) = p := by
    rw [ByteArray.toList_eq, ByteArray.toList_eq, BA_list, BA_list, ← hp.out]
    by_cases h : pad (anchor (CodeM.zag u)) = l <;> simp [h]
  have hps : (BA (pad (anchor (CodeM.zag u)))).size = 64 := by rw [BA_size, hpl]
  have hAs : (BA (anchor (CodeM.zag u))).size = k := by rw [BA_size, hk.out]
  rw [hk.out] at hal
  have HRp := box (fun (w : World) => repeat_zeros (64 - k) w (by omega))
  have hki : ((64 - k : Nat) : Int) = 64 - (k : Int) := by omega
  rw [hki] at HRp
  have hzs : (SectM.zeros (64 - k)).size = 64 - k := by show (List.replicate (64 - k) (0 : UInt8)).toArray.size = _; simp
  have HE1 : Box (CodeM.zag u < 0 ∨ 1000000 < CodeM.zag u ∨ p = false → epochOf l = (0, 4)) := ⟨fun h => by
    rw [HE0.out, if_pos]
    rcases h with h | h | h
    · exact Or.inr (Or.inl h)
    · exact Or.inr (Or.inr (Or.inl h))
    · refine Or.inr (Or.inr (Or.inr fun e => ?_))
      rw [← hp.out, decide_eq_false_iff_not] at h
      exact h e⟩
  have HE2 : Box (0 ≤ CodeM.zag u → CodeM.zag u ≤ 1000000 → p = true → epochOf l = (CodeM.zag u, 0)) := ⟨fun h1 h2 h3 => by
    rw [HE0.out, if_neg]
    rintro (h | h | h | h)
    · exact h rfl
    · omega
    · omega
    · rw [← hp.out, decide_eq_true_eq] at h3
      exact h h3⟩
  have hsum : (BA (anchor (CodeM.zag u))).size + (SectM.zeros (64 - k)).size ≤ 64 := by rw [hAs, hzs]; omega
  clear htu hx HE0 HAn hp hpl hki hl
  generalize BA (pad (anchor (CodeM.zag u))) = PD at *
  generalize BA (anchor (CodeM.zag u)) = A0 at *
  generalize SectM.zeros (64 - k) = Z at *
  have e3 := HPd.out
  generalize BA (Lib.trimB l 0) = T at *
  generalize BA (l.drop 1) = R at *
  generalize BA l = S at *
  generalize CodeM.zag u = n at *
  obtain ⟨E1, hE1⟩ : ∃ x, Box (epochOf l = x) := ⟨_, ⟨rfl⟩⟩
  rw [hE1.out] at HE1 HE2 ⊢
  go_enter Tryd.func21, Tryd.ntmps21
  go_wp2_with fail
  refine HT.out.mono ?_
  rintro e w1 ⟨rfl, hw⟩
  have HB : Box (Below w.heap.size w w1) := ⟨by rcases hw with rfl | rfl; exact Below.refl _ _; exact (Below.refl _ _).drew⟩
  clear hw HT
  go_wp2_with fail
  refine (HG.out _).mono ?_
  rintro e w2 ⟨rfl, rfl⟩
  go_wp2_with fail
  refine (HAc.out _).mono ?_
  rintro e w3 ⟨rfl, hb3⟩
  have HB3 := box (below_tr HB.out hb3)
  clear hb3 HG HAc
  by_cases b1 : n < 0
  · have d1 : decide (n < 0) = true := decide_eq_true b1
    have HE := box (HE1.out (Or.inl b1))
    clear HE1 HE2
    go_wp2_with fail
    go_ret2
    exact ⟨by rw [HE.out]; rfl, HB3.out⟩
  have d1 : decide (n < 0) = false := decide_eq_false b1
  by_cases b2 : 1000000 < n
  · have d2 : decide (1000000 < n) = true := decide_eq_true b2
    have HE := box (HE1.out (Or.inr (Or.inl b2)))
    clear HE1 HE2
    go_wp2_with fail
    go_ret2
    exact ⟨by rw [HE.out]; rfl, HB3.out⟩
  have d2 : decide (1000000 < n) = false := decide_eq_false b2
  have HEf := box (fun h => HE1.out (Or.inr (Or.inr h)))
  have HEt := box (HE2.out (by omega) (by omega))
  clear b1 b2 HE1 HE2
  go_wp2_with fail
  refine (HRp.out _).mono ?_
  rintro e w4 ⟨rfl, hb4⟩
  have HB4 := box (below_tr HB3.out hb4)
  clear hb4 HRp
  cases p with
  | false =>
    have HE := box (HEf.out rfl)
    clear HEf HEt
    go_wp2_with fail
    go_ret2
    exact ⟨by rw [HE.out]; rfl, HB4.out⟩
  | true =>
    have HE := box (HEt.out rfl)
    clear HEf HEt
    go_wp2_with fail
    go_ret2
    exact ⟨by rw [HE.out]; rfl, HB4.out⟩
end Go.Proofs.YtpeaefeoogcepaaDoor
