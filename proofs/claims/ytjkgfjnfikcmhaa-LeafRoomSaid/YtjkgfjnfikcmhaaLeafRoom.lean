/- LeafRoom is proved for every input: room is what is left; a text finds room just if there is enough, and a slot. -/
import Derived.Test.YtjkgfjnfikcmhaaLawKit
import Derived.Test.YtjkgfjnfikcmhaaLeafRoomM
import Derived.Test.YtjkgfjnfikcmhaaLeafOpen
namespace Go.Proofs.Ytjkgfjnfikcmhaa
open Go.RowKit Go.Lib

theorem free_nil (w : World) : Calls Try.prog 24 #[.agg #[.slice none 0 0]] w fun e w' => e = .returned (.tuple #[.int .i64 511, .int .i64 0]) ∧ Below w.heap.size w w' :=
  (free_any [] none 0 w (Or.inl rfl) ⟨by simp, by simp⟩).mono fun e w' ⟨h1, h2⟩ => ⟨by rw [h1]; rfl, h2⟩

set_option maxRecDepth 20000 in
set_option maxHeartbeats 4000000 in
theorem leafRoom_calls (ls : List (Bool × ByteArray)) (ao : Option Addr) (cap : Nat) (t : ByteArray) (w : World) (h : LeafM.At w ao ls) (hf : LeafM.Fits ls) (hnil : ao = none → cap = 0) (ht : t.size ≤ 140737488355328) :
    Calls Try.prog 8 #[.agg #[.slice ao ls.length cap], .string t] w fun e w' => e = .returned (.bool true) ∧ Below w.heap.size w w' := by
  have H := box h; have Hf := box hf; have Hnil := box hnil
  clear h hf hnil
  go_enter Try.func8, Try.ntmps8
  go_wp2_with fail
  have hx0 : (w.alloc (.cells #[.slice ao ls.length cap] 51)).cell? ⟨w.heap.size, 0, none⟩ = some (.slice ao ls.length cap) := by go_simp
  refine (free_nil _).mono ?_
  rintro e w1 ⟨rfl, hb1⟩
  have hc1 : w1.cell? ⟨w.heap.size, 0, none⟩ = some (.slice ao ls.length cap) := (hb1.cell (p := ⟨w.heap.size, 0, none⟩) (by simp)).trans hx0
  have HB1 : Box (Below w.heap.size w w1) := ⟨((Below.refl w.heap.size w).alloc (Nat.le_refl _) _).trans (hb1.mono (by simp))⟩
  have Hs1 : Box (w.heap.size < w1.heap.size) := ⟨by have := hb1.size; simp at this; omega⟩
  clear hb1 hx0
  go_wp2_with fail
  refine (free_any ls ao cap _ (H.out.below HB1.out (Nat.le_refl _)) Hf.out).mono ?_
  rintro e w2 ⟨rfl, hb2⟩
  have hc2 := (hb2.cell (p := ⟨w.heap.size, 0, none⟩) Hs1.out).trans hc1
  have HB2 := box (HB1.out.trans (hb2.mono (Nat.le_of_lt Hs1.out)))
  have Hs2 := box (Nat.lt_of_lt_of_le Hs1.out hb2.size)
  clear hb2 hc1
  unfold LeafM.free
  obtain ⟨c, HC⟩ : ∃ c, Box (LeafM.check ls = c) := ⟨_, ⟨rfl⟩⟩
  rw [HC.out]
  by_cases h0 : c = 0
  case neg =>
    rw [if_neg h0]
    have g1 : (c == 0) = false := by simp [h0]
    have g2 : (c != 0) = true := by simp [h0]
    clear h0
    go_wp2_with fail
    refine (check_any ls ao cap _ (H.out.below HB2.out (Nat.le_refl _)) Hf.out).mono ?_
    rintro e w3 ⟨rfl, hb3⟩
    rw [HC.out]
    have HB3 := box (HB2.out.trans (hb3.mono (Nat.le_of_lt Hs2.out)))
    clear hb3
    go_wp2_with fail
    go_ret
    exact ⟨rfl, HB3.out⟩
  subst h0
  rw [if_pos rfl]
  obtain ⟨c1, _, _, c4⟩ := LeafM.check_le HC.out
  obtain ⟨Z, HZ⟩ : ∃ Z, Box (LeafM.size ls = Z) := ⟨_, ⟨rfl⟩⟩
  rw [HZ.out] at c4 ⊢
  go_wp2_with fail
  refine (put_any ls ao cap t _ (H.out.below HB2.out (Nat.le_refl _)) Hf.out Hnil.out).mono ?_
  rintro e w3 ⟨hb3, hp⟩
  have hc3 := (hb3.cell (p := ⟨w.heap.size, 0, none⟩) Hs2.out).trans hc2
  have HB3 := box (HB2.out.trans (hb3.mono (Nat.le_of_lt Hs2.out)))
  have Hs3 := box (Nat.lt_of_lt_of_le Hs2.out hb3.size)
  clear hc2 hb3
  rcases hp with ⟨hne, rfl⟩ | ⟨heq, g, cap', rfl, hg, hown⟩
  · obtain ⟨h8, hor⟩ := LeafM.putErr_cases HC.out hne
    rw [h8]
    rw [HZ.out] at hor
    have C4 := box c4
    clear hne h8 c4
    by_cases hr : 512 ≤ Z + t.size + 2
    · have q : decide ((512 : Int) - (Z : Int) ≤ (t.size : Int) + 2) = true := by simp; omega
      clear hor hr
      go_wp2_with fail
      go_ret
      exact ⟨rfl, HB3.out.alloc (Nat.le_of_lt Hs3.out) _⟩
    · have q : decide ((512 : Int) - (Z : Int) ≤ (t.size : Int) + 2) = false := by simp; omega
      have hl : ls.length = 40 := hor.resolve_left hr
      rw [hl] at hc3
      clear hor hr
      have hs3 := Hs3.out
      have hc3' : (w3.alloc (.cells #[.slice none 0 0] 51)).cell? ⟨w.heap.size, 0, none⟩ = some (.slice ao 40 cap) := by rw [World.cell?_alloc_past (hn := hs3)]; exact hc3
      go_wp2_with fail
      go_ret
      exact ⟨rfl, HB3.out.alloc (Nat.le_of_lt Hs3.out) _⟩
  · obtain ⟨_, ht5, hco⟩ := LeafM.check_out heq
    obtain ⟨z1, z2⟩ := LeafM.put_size (t := t) c1 ht5
    obtain ⟨o1, _, _, o4⟩ := LeafM.check_le hco
    have hfo : Box (LeafM.Fits (LeafM.putOut ls t)) := ⟨by
      refine ⟨by omega, fun s hs => ?_⟩
      unfold LeafM.putOut at hs
      split at hs
      · exact (LeafM.fits_set Hf.out _ (true, t) (by show t.size ≤ _; omega)).2 s hs
      · exact (LeafM.fits_snoc Hf.out c1 (true, t) (by show t.size ≤ _; omega)).2 s hs⟩
    have Hown := box hown; have Hco := box hco
    obtain ⟨Y, HY⟩ : ∃ Y, Box (LeafM.size (LeafM.putOut ls t) = Y) := ⟨_, ⟨rfl⟩⟩
    rw [HZ.out, HY.out] at z1 z2
    rw [HY.out] at o4
    have O4 := box o4; have Z1 := box z1; have Z2 := box z2; have C4 := box c4
    clear heq hown hco hg o4 z1 z2 c4 hc3 ht5 o1
    go_wp2_with fail
    have hat : LeafM.At (w3.alloc (.cells #[.slice (some ⟨g, 0, none⟩) (LeafM.putOut ls t).length cap'] 51)) (some ⟨g, 0, none⟩) (LeafM.putOut ls t) :=
      Or.inr ⟨g, 0, rfl, by
        have := (Hown.out.lt g rfl).2
        simp; omega, LeafM.owns_slots (Hown.out.alloc _) rfl⟩
    refine (free_any (LeafM.putOut ls t) (some ⟨g, 0, none⟩) cap' _ hat hfo.out).mono ?_
    rintro e w4 ⟨rfl, hb4⟩
    have HB4 : Box (Below w.heap.size w w4) := ⟨(HB3.out.alloc (Nat.le_of_lt Hs3.out) _).trans (hb4.mono (by have := Hs3.out; simp; omega))⟩
    clear hb4 hat
    unfold LeafM.free
    rw [if_pos Hco.out, HY.out]
    have q1 : decide ((0 : Int) ≤ 512 - (Y : Int)) = true := by have := O4.out; simp; omega
    have q2 : decide ((512 : Int) - (Y : Int) ≤ 512 - (Z : Int) - (t.size : Int)) = true := by have := Z1.out; simp; omega
    have q3 : decide ((512 : Int) - (Z : Int) - (t.size : Int) - (512 - (Y : Int)) ≤ 2) = true := by have := Z2.out; simp; omega
    have b1 := O4.out; have b2 := Z1.out; have b3 := C4.out
    go_wp2_with fail
    go_ret
    refine ⟨?_, HB4.out⟩
    rfl

namespace lawLeafRoom
open Go.ChangeShapes Go.WideShapes Go.ChangeAt Go.RowKit Go.ChangeMaps

set_option maxRecDepth 100000 in
theorem lifted (os : Os) (started : os.Started) (H : Type) (enc : TypeId × Value → H) :
    ReturnsInHanded {} Try.checked os 8 .any (Rows.leafRoomSpec.pre6 enc Try.prog Try.f8 [] false) (Rows.leafRoomSpec.post enc Try.prog Try.f8 false true false false) := by
  refine LawKit.law_lifted started (by kernel_rfl) Try.func8 rfl
    (fun ds h => by
      match ds, h with
      | [_, _], _ => rfl)
    rfl Try.underlying4 (by intro t ht; exact of_decide_eq_true (p := Try.prog.readableRec t = true ∧ t < Try.prog.types.size) (by revert t ht; decide +kernel))
    (ChangeSpec.witness6 (enc := enc) (C := Try.checked) false ⟨#[], #[.agg #[.slice none 0 0], .string ⟨#[]⟩], []⟩ 8 (by kernel_rfl) (by kernel_rfl) (by kernel_rfl) (by kernel_rfl)) ?_
  intro W base args ds ps hval hA hsz hlt hfz
  have hA' := hA
  rw [Try.params8] at hA hval
  obtain ⟨v0, vs0, d0, ds0, p0, q0, hargs, rfl, rfl, h0, r0⟩ := trodAll_cons hA
  obtain ⟨v1, vs1, d1, ds1, p1, q1, rfl, rfl, rfl, h1, r1⟩ := trodAll_cons r0
  obtain ⟨rfl, rfl, rfl⟩ := trodAll_nil r1
  obtain rfl : args = #[v0, v1] := by cases args; simp_all
  go_open 1 text
  have hsz_text : text.size ≤ reachBytes := by have h := sized_string hsz (j := 1) (by rw [Try.params8]; rfl) rfl; rw [Array.length_toList] at h; exact h
  obtain ⟨ao, cap, ls, rfl, hnil, hat, hfits, _, _⟩ := open_leaf (hval 0 _ _ rfl rfl) h0 (Open.weights_bound hsz (j := 0) (by rw [Try.params8]; rfl) rfl)
  refine (leafRoom_calls ls ao cap text W hat hfits hnil (by have := reachBytes_lt; omega)).mono ?_
  rintro e W' ⟨rfl, hb⟩
  exact ⟨rfl, hb⟩

theorem proved : Rows.LeafRoomSaid :=
  OpenClaim.holds_of_wide 8 Try.f8 rfl rfl rfl rfl rfl rfl rfl ⟨rfl, rfl, rfl, rfl, rfl⟩ rfl rfl rfl rfl rfl (by kernel_rfl) Try.func8 (by kernel_rfl)
    (of_decide_eq_true (by kernel_rfl)) (by unfold Func.isWrapper; first | (rw [if_pos (by decide +kernel)]; kernel_rfl) | (rw [if_neg (by decide +kernel)]; exact ⟨rfl, rfl⟩))
    (fun os started H enc _ => lifted os started H enc)
end lawLeafRoom
end Go.Proofs.Ytjkgfjnfikcmhaa
