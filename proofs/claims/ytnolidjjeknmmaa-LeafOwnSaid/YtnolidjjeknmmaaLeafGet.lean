/- leaf.Get: what it computes. -/
import Derived.Test.YtnolidjjeknmmaaLeafCheck
namespace Go.Proofs.Ytnolidjjeknmmaa
open Go.RowKit Go.Lib

def LeafM.get (ls : List (Bool × ByteArray)) (k : Int) : ByteArray × Int :=
  if LeafM.check ls ≠ 0 then (⟨#[]⟩, LeafM.check ls)
  else if k < 0 then (⟨#[]⟩, 6)
  else match ls[k.toNat]? with
    | some s => if s.1 then (s.2, 0) else (⟨#[]⟩, 6)
    | none => (⟨#[]⟩, 6)
def LeafM.tupG (x : ByteArray × Int) : Value := .tuple #[.string x.1, .int .i64 x.2]

/-- The head of Get, and its way where the page is not right. -/
theorem get_bad (ls : List (Bool × ByteArray)) (ao : Option Addr) (cap : Nat) (k : Int) (w : World) (h : LeafM.At w ao ls) (hf : LeafM.Fits ls) (hc : LeafM.check ls ≠ 0) :
    Calls Try.prog 60 #[.agg #[.slice ao ls.length cap], .int .i64 k] w fun e w' => e = .returned (LeafM.tupG (LeafM.get ls k)) ∧ Below w.heap.size w w' := by
  have H := box h; have Hf := box hf
  have Hres : Box (LeafM.get ls k = (⟨#[]⟩, LeafM.check ls)) := ⟨by unfold LeafM.get; rw [if_pos hc]⟩
  clear h hf
  go_enter Try.func60, Try.ntmps60
  go_wp2_with fail
  refine (check_any ls ao cap _ (H.out.below ((Below.refl _ _).alloc (Nat.le_refl _) _) (Nat.le_refl _)) Hf.out).mono ?_
  rintro e w1 ⟨rfl, hb1⟩
  have HB1 := box ((((Below.refl w.heap.size w).alloc (Nat.le_refl _) (.cells #[.slice ao ls.length cap] 50)).trans (hb1.mono (by simp))))
  clear hb1
  generalize LeafM.check ls = c at *
  have g1 : (c == 0) = false := by simp [hc]
  have g2 : (c != 0) = true := by simp [hc]
  have Hc := box hc; clear hc
  go_wp2_with fail
  go_ret2
  exact ⟨by rw [Hres.out]; rfl, HB1.out⟩

set_option maxRecDepth 20000 in
set_option maxHeartbeats 2000000 in
theorem get_good (ls : List (Bool × ByteArray)) (ao : Option Addr) (cap : Nat) (k : Int) (w : World) (h : LeafM.At w ao ls) (hf : LeafM.Fits ls) (hc : LeafM.check ls = 0) :
    Calls Try.prog 60 #[.agg #[.slice ao ls.length cap], .int .i64 k] w fun e w' => e = .returned (LeafM.tupG (LeafM.get ls k)) ∧ Below w.heap.size w w' := by
  have H := box h; have Hf := box hf
  have hn := (LeafM.check_le hc).1
  have HC := box hc; clear hc
  clear h hf
  go_enter Try.func60, Try.ntmps60
  go_wp2_with fail
  have hx0 : (w.alloc (.cells #[.slice ao ls.length cap] 50)).cell? ⟨w.heap.size, 0, none⟩ = some (.slice ao ls.length cap) := by go_simp
  refine (check_any ls ao cap _ (H.out.below ((Below.refl _ _).alloc (Nat.le_refl _) _) (Nat.le_refl _)) Hf.out).mono ?_
  rintro e w1 ⟨rfl, hb1⟩
  have hc1 : w1.cell? ⟨w.heap.size, 0, none⟩ = some (.slice ao ls.length cap) := (hb1.cell (p := ⟨w.heap.size, 0, none⟩) (by simp)).trans hx0
  have HB1 := box ((((Below.refl w.heap.size w).alloc (Nat.le_refl _) (.cells #[.slice ao ls.length cap] 50)).trans (hb1.mono (by simp))))
  clear hb1 hx0
  rw [HC.out]
  by_cases hneg : k < 0
  · have Hres : Box (LeafM.get ls k = (⟨#[]⟩, 6)) := ⟨by unfold LeafM.get; rw [HC.out, if_neg (by simp), if_pos hneg]⟩
    have q : decide (k < 0) = true := by simp; omega
    have Hneg := box hneg; clear hneg
    go_wp2_with fail
    go_ret2
    exact ⟨by rw [Hres.out]; rfl, HB1.out⟩
  obtain ⟨j, rfl⟩ : ∃ j : Nat, k = (j : Int) := ⟨k.toNat, by omega⟩
  have q : decide ((j : Int) < 0) = false := by simp
  by_cases hout : ls.length ≤ j
  · have Hres : Box (LeafM.get ls (j : Int) = (⟨#[]⟩, 6)) := ⟨by
      unfold LeafM.get; rw [HC.out, if_neg (by simp), if_neg (by omega), Int.toNat_natCast, List.getElem?_eq_none hout]⟩
    have q2 : decide ((ls.length : Int) ≤ (j : Int)) = true := by simp; omega
    have q3 : decide (ls.length ≤ j) = true := by simp; omega
    have Hout := box hout; clear hout hneg
    go_wp2_with fail
    go_ret2
    exact ⟨by rw [Hres.out]; rfl, HB1.out⟩
  · have hlt : j < ls.length := by omega
    have q2 : decide ((ls.length : Int) ≤ (j : Int)) = false := by simp; omega
    have q3 : decide (ls.length ≤ j) = false := by simp; omega
    obtain ⟨b, off, rfl, hb, hsl⟩ : ∃ b off, ao = some ⟨b, off, none⟩ ∧ b < w.heap.size ∧ SlotsAt w b off ls := by
      rcases H.out with h | h
      · rw [h] at hlt; simp at hlt
      · exact h
    obtain ⟨hcu, hct⟩ := (hsl.below HB1.out hb) j hlt
    have Hsl := box hsl
    clear hout hneg hsl
    have Hget : Box (LeafM.get ls (j : Int) = if ls[j].1 then (ls[j].2, 0) else (⟨#[]⟩, 6)) := ⟨by
      unfold LeafM.get; rw [HC.out, if_neg (by simp), if_neg (by omega), Int.toNat_natCast, List.getElem?_eq_getElem hlt]⟩
    generalize ls[j].1 = u at *
    generalize ls[j].2 = t at *
    cases u with
    | true =>
      go_wp2_with fail
      go_ret2
      exact ⟨by rw [Hget.out]; rfl, HB1.out⟩
    | false =>
      go_wp2_with fail
      go_ret2
      exact ⟨by rw [Hget.out]; rfl, HB1.out⟩

theorem leafGet_any (ls : List (Bool × ByteArray)) (ao : Option Addr) (cap : Nat) (k : Int) (w : World) (h : LeafM.At w ao ls) (hf : LeafM.Fits ls) :
    Calls Try.prog 60 #[.agg #[.slice ao ls.length cap], .int .i64 k] w fun e w' => e = .returned (LeafM.tupG (LeafM.get ls k)) ∧ Below w.heap.size w w' := by
  by_cases hc : LeafM.check ls = 0
  · exact get_good ls ao cap k w h hf hc
  · exact get_bad ls ao cap k w h hf hc
end Go.Proofs.Ytnolidjjeknmmaa
