/- leaf.Put: what it computes. -/
import Derived.Test.YtnolidjjeknmmaaLeafPut
namespace Go.Proofs.Ytnolidjjeknmmaa
open Go.RowKit Go.Lib

def LeafM.firstFree (ls : List (Bool × ByteArray)) : Nat := ls.findIdx (fun s => !s.1)
def LeafM.putOut (ls : List (Bool × ByteArray)) (t : ByteArray) : List (Bool × ByteArray) :=
  if LeafM.firstFree ls < ls.length then ls.set (LeafM.firstFree ls) (true, t) else ls ++ [(true, t)]
def LeafM.putErr (ls : List (Bool × ByteArray)) (t : ByteArray) : Int :=
  if LeafM.check ls ≠ 0 then LeafM.check ls else if 512 < t.size then 8
  else if 40 < (LeafM.putOut ls t).length ∨ 512 < LeafM.size (LeafM.putOut ls t) then 8 else 0

/-- What Put leaves: nothing but the error; or a page in memory of its own, and the slot's number. -/
def LeafM.PutPost (ls : List (Bool × ByteArray)) (t : ByteArray) (w : World) (e : Ending) (w' : World) : Prop :=
  Below w.heap.size w w' ∧
    ((LeafM.putErr ls t ≠ 0 ∧ e = .returned (.tuple #[.agg #[.slice none 0 0], .int .i64 0, .int .i64 (LeafM.putErr ls t)])) ∨
     (LeafM.putErr ls t = 0 ∧ ∃ g cap, e = .returned (.tuple #[.agg #[.slice (some ⟨g, 0, none⟩) (LeafM.putOut ls t).length cap], .int .i64 (LeafM.firstFree ls : Nat), .int .i64 0]) ∧
       w.heap.size ≤ g ∧ w'.ownsRow w.heap.size 54 2 (.slice (some ⟨g, 0, none⟩) (LeafM.putOut ls t).length cap) (LeafM.putOut ls t).length (LeafM.cells (LeafM.putOut ls t))))

set_option maxRecDepth 20000 in
set_option maxHeartbeats 2000000 in
theorem put_early (ls : List (Bool × ByteArray)) (ao : Option Addr) (cap : Nat) (t : ByteArray) (w : World) (h : LeafM.At w ao ls) (hf : LeafM.Fits ls)
    (he : LeafM.check ls ≠ 0 ∨ 512 < t.size) :
    Calls Try.prog 27 #[.agg #[.slice ao ls.length cap], .string t] w (LeafM.PutPost ls t w) := by
  have H := box h; have Hf := box hf
  clear h hf
  go_enter Try.func27, Try.ntmps27
  go_wp2_with fail
  refine (check_any ls ao cap _ (H.out.below (((Below.refl w.heap.size w).alloc (Nat.le_refl _) _).alloc (by simp) _) (Nat.le_refl _)) Hf.out).mono ?_
  rintro e w1 ⟨rfl, hb1⟩
  have hx1 : ((w.alloc (.cells #[.slice ao ls.length cap] 50)).alloc (.cells #[.slice none 0 0] 50)).cell? ⟨w.heap.size + 1, 0, none⟩ = some (.slice none 0 0) := by go_simp
  have hx2 : ((w.alloc (.cells #[.slice ao ls.length cap] 50)).alloc (.cells #[.slice none 0 0] 50)).frozen? ⟨w.heap.size + 1, 0, none⟩ = false := by go_simp
  have hc1 : w1.cell? ⟨w.heap.size + 1, 0, none⟩ = some (.slice none 0 0) := (hb1.cell (p := ⟨w.heap.size + 1, 0, none⟩) (by simp)).trans hx1
  have hf1 : w1.frozen? ⟨w.heap.size + 1, 0, none⟩ = false := (hb1.frozen (p := ⟨w.heap.size + 1, 0, none⟩) (by simp)).trans hx2
  have HB1 : Box (Below w.heap.size w w1) := ⟨(((Below.refl w.heap.size w).alloc (Nat.le_refl _) _).alloc (by simp) _).trans (hb1.mono (by simp; omega))⟩
  clear hb1 hx1 hx2
  obtain ⟨c, HC⟩ : ∃ c, Box (LeafM.check ls = c) := ⟨_, ⟨rfl⟩⟩
  rw [HC.out] at he ⊢
  have He := box he; clear he
  by_cases h0 : c = 0
  · subst h0
    have hbig : 512 < t.size := He.out.resolve_left (by simp)
    have hd : decide ((512 : Int) < (t.size : Int)) = true := by simp; omega
    have Hbig := box hbig; clear hbig
    have Herr : Box (LeafM.putErr ls t = 8) := ⟨by rw [LeafM.putErr, HC.out, if_neg (by simp), if_pos Hbig.out]⟩
    go_wp2_with fail
    refine bodyPost_ret (v := .tuple #[.agg #[.slice none 0 0], .int .i64 0, .int .i64 8]) (by simp [results, Try.results27, go_sem, hc1]) rfl ⟨HB1.out.setCell (by simp) _, Or.inl ⟨?_, ?_⟩⟩
    · rw [Herr.out]; simp
    · rw [Herr.out]
  · have g1 : (c == 0) = false := by simp [h0]
    have g2 : (c != 0) = true := by simp [h0]
    have H0 := box h0; clear h0
    have Herr : Box (LeafM.putErr ls t = c) := ⟨by rw [LeafM.putErr, HC.out, if_pos H0.out]⟩
    go_wp2_with fail
    refine bodyPost_ret (v := .tuple #[.agg #[.slice none 0 0], .int .i64 0, .int .i64 c]) (by simp [results, Try.results27, go_sem, hc1]) rfl ⟨HB1.out.setCell (by simp) _, Or.inl ⟨?_, ?_⟩⟩
    · rw [Herr.out]; exact H0.out
    · rw [Herr.out]

theorem LeafM.cells_set (ls : List (Bool × ByteArray)) : ∀ (k : Nat) (x : Bool × ByteArray), k < ls.length → ((LeafM.cells ls).set (k * 2) (.bool x.1)).set (k * 2 + 1) (.string x.2) = LeafM.cells (ls.set k x) := by
  induction ls with
  | nil => intro k x h; simp at h
  | cons s l ih =>
    intro k x h
    cases k with
    | zero => simp [LeafM.cells]
    | succ k =>
      have := ih k x (by simpa using h)
      have e1 : (k + 1) * 2 = k * 2 + 1 + 1 := by omega
      have e2 : k * 2 + 1 + 1 + 1 = (k * 2 + 1) + 1 + 1 := by omega
      rw [e1]
      simp only [LeafM.cells, List.flatMap_cons, List.cons_append, List.nil_append, List.set_cons_succ] at this ⊢
      rw [this]
theorem LeafM.cell_other {W : World} {g B : Nat} (h : g ≠ B) (o o' : Nat) (v : Value) : (W.setCell ⟨g, o, none⟩ v).cell? ⟨B, o', none⟩ = W.cell? ⟨B, o', none⟩ :=
  World.cell?_setCell_other W ⟨g, o, none⟩ ⟨B, o', none⟩ v (by intro e; injection e with e1; exact h e1)
/-- Slot k is overwritten. -/
theorem LeafM.owns_set {W : World} {B g cap : Nat} {ls : List (Bool × ByteArray)} {n : Nat} (h : W.ownsRow B 54 2 (.slice (some ⟨g, 0, none⟩) n cap) n (LeafM.cells ls)) (k : Nat) (x : Bool × ByteArray) (hk : k < ls.length) :
    ((W.setCell ⟨g, k * 2, none⟩ (.bool x.1)).setCell ⟨g, k * 2 + 1, none⟩ (.string x.2)).ownsRow B 54 2 (.slice (some ⟨g, 0, none⟩) n cap) n (LeafM.cells (ls.set k x)) := by
  have := ((h.stored (k * 2) (.bool x.1)).1.stored (k * 2 + 1) (.string x.2)).1
  rw [LeafM.cells_set ls k x hk] at this
  exact this
theorem LeafM.fits_set {ls : List (Bool × ByteArray)} (h : LeafM.Fits ls) (k : Nat) (x : Bool × ByteArray) (hx : x.2.size ≤ 140737488355328) : LeafM.Fits (ls.set k x) :=
  ⟨by rw [List.length_set]; exact h.1, fun s hs => by
    rcases List.mem_or_eq_of_mem_set hs with h1 | h1
    · exact h.2 s h1
    · rw [h1]; exact hx⟩
/-- What stands behind a test of the size: Put's two ends. -/
theorem LeafM.putErr_end {ls : List (Bool × ByteArray)} {t : ByteArray} (hc : LeafM.check ls = 0) (ht : t.size ≤ 512) (hn : (LeafM.putOut ls t).length ≤ 40) :
    LeafM.putErr ls t = if 512 < LeafM.size (LeafM.putOut ls t) then 8 else 0 := by
  unfold LeafM.putErr
  rw [hc, if_neg (by simp), if_neg (by omega)]
  by_cases h : 512 < LeafM.size (LeafM.putOut ls t)
  · rw [if_pos (Or.inr h), if_pos h]
  · rw [if_neg (by omega), if_neg h]

theorem LeafM.cells_append (a b : List (Bool × ByteArray)) : LeafM.cells (a ++ b) = LeafM.cells a ++ LeafM.cells b := by simp [LeafM.cells]
theorem LeafM.fits_snoc {ls : List (Bool × ByteArray)} (h : LeafM.Fits ls) (hn : ls.length ≤ 40) (x : Bool × ByteArray) (hx : x.2.size ≤ 140737488355328) : LeafM.Fits (ls ++ [x]) :=
  ⟨by simp; omega, fun s hs => by
    rcases List.mem_append.1 hs with h1 | h1
    · exact h.2 s h1
    · rw [List.mem_singleton.1 h1]; exact hx⟩
theorem LeafM.putErr_end2 {ls : List (Bool × ByteArray)} {t : ByteArray} (hc : LeafM.check ls = 0) (ht : t.size ≤ 512) (hn : 40 < (LeafM.putOut ls t).length) :
    LeafM.putErr ls t = 8 := by
  unfold LeafM.putErr
  rw [hc, if_neg (by simp), if_neg (by omega), if_pos (Or.inl hn)]

set_option maxRecDepth 20000 in
set_option maxHeartbeats 4000000 in
theorem put_main (ls : List (Bool × ByteArray)) (ao : Option Addr) (cap : Nat) (t : ByteArray) (w : World) (h : LeafM.At w ao ls) (hf : LeafM.Fits ls) (hnil : ao = none → cap = 0)
    (hc : LeafM.check ls = 0) (ht : t.size ≤ 512) :
    Calls Try.prog 27 #[.agg #[.slice ao ls.length cap], .string t] w (LeafM.PutPost ls t w) := by
  have H := box h; have Hf := box hf; have HC := box hc
  have hn := (LeafM.check_le hc).1
  have hd : decide ((512 : Int) < (t.size : Int)) = false := by simp; omega
  have Ht := box ht; have Hnil := box hnil; have Hn := box hn
  clear h hf hc ht hnil
  go_enter Try.func27, Try.ntmps27
  go_wp2_with fail
  refine (check_any ls ao cap _ (H.out.below (((Below.refl w.heap.size w).alloc (Nat.le_refl _) _).alloc (by simp) _) (Nat.le_refl _)) Hf.out).mono ?_
  rintro e w1 ⟨rfl, hb1⟩
  rw [HC.out]
  have hx0 : ((w.alloc (.cells #[.slice ao ls.length cap] 50)).alloc (.cells #[.slice none 0 0] 50)).cell? ⟨w.heap.size, 0, none⟩ = some (.slice ao ls.length cap) := by go_simp
  have hx1 : ((w.alloc (.cells #[.slice ao ls.length cap] 50)).alloc (.cells #[.slice none 0 0] 50)).cell? ⟨w.heap.size + 1, 0, none⟩ = some (.slice none 0 0) := by go_simp
  have hx2 : ((w.alloc (.cells #[.slice ao ls.length cap] 50)).alloc (.cells #[.slice none 0 0] 50)).frozen? ⟨w.heap.size + 1, 0, none⟩ = false := by go_simp
  have hc0 : w1.cell? ⟨w.heap.size, 0, none⟩ = some (.slice ao ls.length cap) := (hb1.cell (p := ⟨w.heap.size, 0, none⟩) (by simp; omega)).trans hx0
  have hc1 := box ((hb1.cell (p := ⟨w.heap.size + 1, 0, none⟩) (by simp)).trans hx1)
  have hf1 := box ((hb1.frozen (p := ⟨w.heap.size + 1, 0, none⟩) (by simp)).trans hx2)
  have HB1 : Box (Below w.heap.size w w1) := ⟨(((Below.refl w.heap.size w).alloc (Nat.le_refl _) _).alloc (by simp) _).trans (hb1.mono (by simp; omega))⟩
  have Hs1 : Box (w.heap.size + 2 ≤ w1.heap.size) := ⟨by have := hb1.size; simp at this; omega⟩
  clear hb1 hx0 hx1 hx2
  go_wp2_with fail
  refine (copied_any ls ao cap _ (H.out.below HB1.out (Nat.le_refl _)) Hnil.out (by omega)).mono ?_
  rintro e w2 ⟨v, rfl, hown, hb2, hv⟩
  obtain ⟨g, cap', hv', hg1, hg2, hg3⟩ := ownsRow_shape hown hv
  rw [hv'] at hown ⊢
  have HB2 := box (HB1.out.trans (hb2.mono (by have := Hs1.out; omega)))
  have Hc2 := box ((hb2.cell (p := ⟨w.heap.size + 1, 0, none⟩) (Nat.lt_of_lt_of_le (Nat.lt_succ_self (w.heap.size + 1)) Hs1.out)).trans hc1.out)
  have Hf2 := box ((hb2.frozen (p := ⟨w.heap.size + 1, 0, none⟩) (Nat.lt_of_lt_of_le (Nat.lt_succ_self (w.heap.size + 1)) Hs1.out)).trans hf1.out)
  have Hs2 := box (Nat.le_trans Hs1.out hb2.size)
  have Hg1 := box hg1; have Hg2 := box hg2; have Hown := box (hown.alloc (.cells #[.slice (some ⟨g, 0, none⟩) ls.length cap'] 50))
  clear hown hb2 hv hv' hg1 hg2 hc0
  go_wp2_with fail
  obtain ⟨W3, HW3⟩ : ∃ W3, Box (w2.alloc (.cells #[.slice (some ⟨g, 0, none⟩) ls.length cap'] 50) = W3) := ⟨_, ⟨rfl⟩⟩
  have hc3 : (w2.alloc (.cells #[.slice (some ⟨g, 0, none⟩) ls.length cap'] 50)).cell? ⟨w2.heap.size, 0, none⟩ = some (.slice (some ⟨g, 0, none⟩) ls.length cap') := by go_simp
  have hf3 : (w2.alloc (.cells #[.slice (some ⟨g, 0, none⟩) ls.length cap'] 50)).frozen? ⟨w2.heap.size, 0, none⟩ = false := by go_simp
  have HB3 : Box (Below w.heap.size w W3) := ⟨by rw [← HW3.out]; exact HB2.out.alloc (by have := Hs2.out; omega) _⟩
  have HB23 : Box (Below w2.heap.size w2 W3) := ⟨by rw [← HW3.out]; exact (Below.refl _ _).alloc (Nat.le_refl _) _⟩
  have HS3 : Box (W3.heap.size = w2.heap.size + 1) := ⟨by rw [← HW3.out]; simp⟩
  rw [HW3.out] at hc3 hf3 ⊢
  have Hown3 : Box (W3.ownsRow w1.heap.size 54 2 (.slice (some ⟨g, 0, none⟩) ls.length cap') ls.length (LeafM.cells ls)) := ⟨by rw [← HW3.out]; exact Hown.out⟩
  have Hc4 := box ((HB23.out.cell (p := ⟨w.heap.size + 1, 0, none⟩) (Nat.lt_of_lt_of_le (Nat.lt_succ_self (w.heap.size + 1)) Hs2.out)).trans Hc2.out)
  have Hf4 := box ((HB23.out.frozen (p := ⟨w.heap.size + 1, 0, none⟩) (Nat.lt_of_lt_of_le (Nat.lt_succ_self (w.heap.size + 1)) Hs2.out)).trans Hf2.out)
  obtain ⟨B3, HB⟩ : ∃ B3, Box (w2.heap.size = B3) := ⟨_, ⟨rfl⟩⟩
  rw [HB.out] at hc3 hf3 ⊢
  go_loop [9] (fun t9 => ∃ k : Nat, k ≤ ls.length ∧ t9 = .int .i64 (k : Int) ∧ Box (∀ j (h : j < ls.length), j < k → ls[j].1 = true)) (fun t9 => ls.length - (intOf t9).toNat)
  case atStart => exact ⟨0, Nat.zero_le _, rfl, ⟨fun j _ h => by omega⟩⟩
  case round =>
    obtain ⟨k, hk, rfl, Hall⟩ := hrel
    have hsl := LeafM.owns_slots Hown3.out rfl
    by_cases hlt : k < ls.length
    · obtain ⟨hcu, hct⟩ := hsl k hlt
      rw [Nat.zero_add] at hcu hct
      have hk2 : k * 2 < ls.length * 2 := by omega
      have Hsl := box hsl; clear hsl
      cases hu : ls[k].1 with
      | true =>
        have Hu := box hu
        rw [hu] at hcu
        clear hu hct
        go_wp2_with fail
        go_round
        case rel => exact ⟨k + 1, hlt, by go_num, ⟨fun j h hj => by
          by_cases e : j = k
          · subst e; exact Hu.out
          · exact Hall.out j h (by omega)⟩⟩
        case measure => simp [intOf]; omega
      | false =>
        have Hu := box hu
        rw [hu] at hcu
        clear hu
        have hff : LeafM.firstFree ls = k := by
          unfold LeafM.firstFree
          rw [List.findIdx_eq (by omega)]
          exact ⟨by simp [Hu.out], fun j hj => by simp [Hall.out j (by omega) hj]⟩
        have q1 : ((k : Int) == (ls.length : Int)) = false := by simp; omega
        have q2 : (k == ls.length) = false := by simp; omega
        have Hff := box hff; clear hff
        have hfu := Hown3.out.frozenAt (k * 2)
        have hft := Hown3.out.frozenAt (k * 2 + 1)
        have hgB : g ≠ B3 := by have := Hg2.out; have := HB.out; omega
        have hgB' : g ≠ w.heap.size + 1 := by have := Hg1.out; have := Hs1.out; omega
        have hc5 : (W3.setCell ⟨g, k * 2, none⟩ (.bool true)).cell? ⟨B3, 0, none⟩ = some (.slice (some ⟨g, 0, none⟩) ls.length cap') := by rw [LeafM.cell_other hgB]; exact hc3
        have Hout : Box (LeafM.putOut ls t = ls.set k (true, t)) := ⟨by rw [LeafM.putOut, Hff.out, if_pos hlt]⟩
        have HgB' := box hgB'; have HgB := box hgB
        have hlen : (ls.set k (true, t)).length = ls.length := List.length_set
        have hd40 : decide ((40 : Int) < (ls.length : Int)) = false := by simp; omega
        have hd40' : decide (40 < ls.length) = false := by simp; omega
        clear hgB hgB'
        go_wp2_with fail
        have hown5 := LeafM.owns_set Hown3.out k (true, t) hlt
        obtain ⟨W5, HW5⟩ : ∃ W5, Box ((W3.setCell ⟨g, k * 2, none⟩ (.bool true)).setCell ⟨g, k * 2 + 1, none⟩ (.string t) = W5) := ⟨_, ⟨rfl⟩⟩
        simp only at hown5
        rw [HW5.out] at hown5 ⊢
        have Hown5 := box hown5
        have Hc6 : Box (W5.cell? ⟨w.heap.size + 1, 0, none⟩ = some (.slice none 0 0)) := ⟨by rw [← HW5.out, LeafM.cell_other HgB'.out, LeafM.cell_other HgB'.out]; exact Hc4.out⟩
        have Hf6 : Box (W5.frozen? ⟨w.heap.size + 1, 0, none⟩ = false) := ⟨by rw [← HW5.out, World.frozen?_setCell, World.frozen?_setCell]; exact Hf4.out⟩
        have Hc7 : Box (W5.cell? ⟨B3, 0, none⟩ = some (.slice (some ⟨g, 0, none⟩) ls.length cap')) := ⟨by rw [← HW5.out, LeafM.cell_other HgB.out]; exact hc5⟩
        have HS5 : Box (W5.heap.size = w2.heap.size + 1) := ⟨by rw [← HW5.out]; simpa using HS3.out⟩
        have HB5 : Box (Below w.heap.size w W5) := ⟨by rw [← HW5.out]; exact (HB3.out.setCell (by have := Hg1.out; have := Hs1.out; show w.heap.size ≤ g; omega) _).setCell (by have := Hg1.out; have := Hs1.out; show w.heap.size ≤ g; omega) _⟩
        clear hown5 hc5 hc3 hf3 hcu hct hfu hft q1 q2
        refine (hlen ▸ size_any (ls.set k (true, t)) (some ⟨g, 0, none⟩) cap' W5 (Or.inr ⟨g, 0, rfl, by have := Hg2.out; have := HS5.out; omega, LeafM.owns_slots Hown5.out hlen.symm⟩) (by rw [hlen]; omega) (LeafM.fits_set Hf.out k _ (by have := Ht.out; show t.size ≤ _; omega))).mono ?_
        rintro e w6 ⟨rfl, hb6⟩
        have hc8 := (hb6.cell (p := ⟨w.heap.size + 1, 0, none⟩) (by have := HS5.out; have := Hs2.out; show w.heap.size + 1 < W5.heap.size; omega)).trans Hc6.out
        have hf8 := (hb6.frozen (p := ⟨w.heap.size + 1, 0, none⟩) (by have := HS5.out; have := Hs2.out; show w.heap.size + 1 < W5.heap.size; omega)).trans Hf6.out
        have hc9 := (hb6.cell (p := ⟨B3, 0, none⟩) (by have := HS5.out; have := HB.out; show B3 < W5.heap.size; omega)).trans Hc7.out
        have HB6 : Box (Below w.heap.size w w6) := ⟨HB5.out.trans (hb6.mono (by have := HS5.out; have := Hs2.out; omega))⟩
        have Hown6 : Box (w6.ownsRow w.heap.size 54 2 (.slice (some ⟨g, 0, none⟩) ls.length cap') ls.length (LeafM.cells (ls.set k (true, t)))) := ⟨ownsRow_below (ownsRow_mono Hown5.out (by have := Hs1.out; omega)) hb6⟩
        clear hb6
        have Herr := box (LeafM.putErr_end HC.out Ht.out (by rw [Hout.out, hlen]; omega))
        rw [Hout.out] at Herr
        obtain ⟨Z, HZ⟩ : ∃ Z, Box (LeafM.size (ls.set k (true, t)) = Z) := ⟨_, ⟨rfl⟩⟩
        rw [HZ.out]
        by_cases hbig : 512 < Z
        · have hq : decide ((512 : Int) < (Z : Int)) = true := by simp; omega
          have HE : Box (LeafM.putErr ls t = 8) := ⟨by rw [Herr.out, HZ.out, if_pos hbig]⟩
          have Hbig := box hbig; clear hbig
          go_wp2_with fail
          refine bodyPost_ret (v := .tuple #[.agg #[.slice none 0 0], .int .i64 0, .int .i64 8]) (by simp [results, Try.results27, go_sem, hc8]) rfl ⟨HB6.out.setCell (by simp) _, Or.inl ⟨?_, ?_⟩⟩
          · rw [HE.out]; simp
          · rw [HE.out]
        · have hq : decide ((512 : Int) < (Z : Int)) = false := by simp; omega
          have HE : Box (LeafM.putErr ls t = 0) := ⟨by rw [Herr.out, HZ.out, if_neg hbig]⟩
          have Hbig := box hbig; clear hbig
          go_wp2_with fail
          refine bodyPost_ret (v := .tuple #[.agg #[.slice (some ⟨g, 0, none⟩) ls.length cap'], .int .i64 (k : Nat), .int .i64 0]) (by simp [results, Try.results27, go_sem, hc8]) rfl ⟨HB6.out.setCell (by simp) _, Or.inr ⟨HE.out, g, cap', ?_, ?_, ?_⟩⟩
          · rw [Hout.out, hlen, Hff.out]
          · have := Hg1.out; have := Hs1.out; omega
          · rw [Hout.out, hlen]
            exact ownsRow_setCell_other Hown6.out (by have := HgB'.out; simp [Value.ownBlock]; omega) _
    · have hkn : k = ls.length := by omega
      subst hkn
      obtain ⟨i0, hi, hz0, hz1, hz2⟩ := info_parts Try.infoSlot
      have hff : LeafM.firstFree ls = ls.length := by
        unfold LeafM.firstFree
        rw [List.findIdx_eq_length]
        intro x hx
        obtain ⟨j, hj, rfl⟩ := List.getElem_of_mem hx
        simp [Hall.out j hj hj]
      have Hff := box hff; clear hff hsl
      have Hout : Box (LeafM.putOut ls t = ls ++ [(true, t)]) := ⟨by rw [LeafM.putOut, Hff.out, if_neg (by omega)]⟩
      have hB3h : W3.heap[B3]? = some (.cells #[.slice (some ⟨g, 0, none⟩) ls.length cap'] 50 (0, 0)) := by
        rw [← HW3.out, ← HB.out]; exact heap_alloc_new _ _
      have HB3h := box hB3h; clear hB3h
      have hownA := Hown3.out.alloc (.cells #[.bool false, .string { data := #[] }] 54)
      have hbase : w1.heap.size ≤ W3.heap.size := by have := HS3.out; have := Hg1.out; have := Hg2.out; omega
      go_wp2_with (at_builtin; refine wpList_append_own _ rfl _ _ 48 rfl w1.heap.size 54 i0 _ 2 24 Try.underlying48 hi hz0 hz1 hz2 rfl (by decide) _ _ _ rfl hownA ⟨W3.heap.size, 0, none⟩ 1 1 [.bool false, .string { data := #[] }] rfl rfl (cells_new W3 [.bool false, .string { data := #[] }] _) (by simp [Value.oneCell']) (by unfold maxLen; omega) (by omega) (by rw [World.size_alloc]; omega) ?_)
      intro v' w4 hown4 hgrow hv'
      obtain ⟨g', cap4, hve, hg1', hg2', hg3'⟩ := ownsRow_shape hown4 hv'
      rw [hve] at hown4 ⊢
      have hblk : w4.heap[B3]? = some (.cells #[.slice (some ⟨g, 0, none⟩) ls.length cap'] 50 (0, 0)) := by
        rw [hgrow.block B3 (by rw [World.size_alloc, HS3.out, HB.out]; omega) (by simp [Value.ownBlock]; have := Hg2.out; have := HB.out; omega)]
        rw [Below.heap_alloc _ _ _ (by rw [HS3.out, HB.out]; omega)]
        exact HB3h.out
      have hg'B : g' ≠ B3 := by
        intro e
        rcases hown4.2 with ⟨h, _⟩ | ⟨g2, cap2, cur2, h, _, hh, _⟩
        · simp at h
        · simp only [Value.slice.injEq, Option.some.injEq, Addr.mk.injEq] at h
          obtain ⟨⟨e2, _⟩, _⟩ := h
          rw [← e2, e, hblk] at hh
          simp at hh
      have hc5 : w4.cell? ⟨B3, 0, none⟩ = some (.slice (some ⟨g, 0, none⟩) ls.length cap') := by simp [World.cell?, hblk]
      have hf5 : w4.frozen? ⟨B3, 0, none⟩ = false := by simp [World.frozen?, hblk]
      have Hb4 : Box (Below g (W3.alloc (.cells #[.bool false, .string { data := #[] }] 54)) w4) := ⟨(Below.refl _ _).grown hgrow (by rw [World.size_alloc]; have := HS3.out; have := Hg2.out; omega) (fun k hk => by simp [Value.ownBlock] at hk; omega)⟩
      have Hb5 : Box (Below w.heap.size w w4) := ⟨(HB3.out.alloc (by have := HS3.out; have := Hs2.out; omega) _).trans (Hb4.out.mono (by have := Hg1.out; have := Hs1.out; omega))⟩
      have Hb6 : Box (Below g W3 w4) := ⟨((Below.refl g W3).alloc (by have := HS3.out; have := Hg2.out; omega) _).trans Hb4.out⟩
      have Hc6 := box ((Hb6.out.cell (p := ⟨w.heap.size + 1, 0, none⟩) (by have := Hg1.out; have := Hs1.out; show w.heap.size + 1 < g; omega)).trans Hc4.out)
      have Hf6 := box ((Hb6.out.frozen (p := ⟨w.heap.size + 1, 0, none⟩) (by have := Hg1.out; have := Hs1.out; show w.heap.size + 1 < g; omega)).trans Hf4.out)
      have Hs4 : Box (W3.heap.size < w4.heap.size) := ⟨by have := hgrow.size; rw [World.size_alloc] at this; omega⟩
      have HgB := box hg'B; have Hg' := box hg1'; have Hgl := box hg2'
      have hown4' : w4.ownsRow w1.heap.size 54 2 (.slice (some ⟨g', 0, none⟩) (ls.length + 1) cap4) (ls.length + 1) (LeafM.cells (ls ++ [(false, { data := #[] })])) := by rw [LeafM.cells_append]; exact hown4
      have Hown4 := box hown4'
      clear hown4 hown4' hgrow hv' hve hblk hc3 hf3 hownA hg'B hg1' hg2'
      have hsl4 := LeafM.owns_slots Hown4.out (by simp)
      obtain ⟨hcA, hcB⟩ := hsl4 ls.length (by simp)
      rw [Nat.zero_add] at hcA hcB
      have hg'B' : g' ≠ w.heap.size + 1 := by have := Hg'.out; have := Hs1.out; omega
      have HgB' := box hg'B'; clear hg'B' hsl4
      have hcA2 : (w4.setCell ⟨B3, 0, none⟩ (.slice (some ⟨g', 0, none⟩) (ls.length + 1) cap4)).cell? ⟨g', ls.length * 2, none⟩ = some (.bool false) := by rw [LeafM.cell_other (Ne.symm HgB.out), hcA]; simp
      have hcB2 : (w4.setCell ⟨B3, 0, none⟩ (.slice (some ⟨g', 0, none⟩) (ls.length + 1) cap4)).cell? ⟨g', ls.length * 2 + 1, none⟩ = some (.string { data := #[] }) := by rw [LeafM.cell_other (Ne.symm HgB.out), hcB]; simp
      have hfA := Hown4.out.frozenAt (ls.length * 2)
      have hfB := Hown4.out.frozenAt (ls.length * 2 + 1)
      have hcC : (w4.setCell ⟨B3, 0, none⟩ (.slice (some ⟨g', 0, none⟩) (ls.length + 1) cap4)).cell? ⟨B3, 0, none⟩ = some (.slice (some ⟨g', 0, none⟩) (ls.length + 1) cap4) := World.cell?_setCell_same _ _ _ hc5
      have hcD : ((w4.setCell ⟨B3, 0, none⟩ (.slice (some ⟨g', 0, none⟩) (ls.length + 1) cap4)).setCell ⟨g', ls.length * 2, none⟩ (.bool true)).cell? ⟨B3, 0, none⟩ = some (.slice (some ⟨g', 0, none⟩) (ls.length + 1) cap4) := by rw [LeafM.cell_other HgB.out]; exact hcC
      have hlen : (ls ++ [(true, t)]).length = ls.length + 1 := by simp
      clear hcA hcB
      by_cases h40 : ls.length = 40
      · have d1 : decide ((40 : Int) < (ls.length : Int) + 1) = true := by simp; omega
        have HE : Box (LeafM.putErr ls t = 8) := ⟨LeafM.putErr_end2 HC.out Ht.out (by rw [Hout.out, hlen]; omega)⟩
        have H40 := box h40; clear h40
        have hc6a : ((w4.setCell ⟨B3, 0, none⟩ (.slice (some ⟨g', 0, none⟩) (ls.length + 1) cap4)).setCell ⟨g', ls.length * 2, none⟩ (.bool true)).cell? ⟨w.heap.size + 1, 0, none⟩ = some (.slice none 0 0) := by
          rw [LeafM.cell_other HgB'.out, LeafM.cell_other (by have := HB.out; have := Hs2.out; omega)]; exact Hc6.out
        have hf6 := Hf6.out
        go_wp2_with fail
        refine bodyPost_ret (v := .tuple #[.agg #[.slice none 0 0], .int .i64 0, .int .i64 8]) (by simp [results, Try.results27, go_sem, hc6a]) rfl ⟨?_, Or.inl ⟨?_, ?_⟩⟩
        · exact (((Hb5.out.setCell (by have := HB.out; have := Hs2.out; show w.heap.size ≤ B3; omega) _).setCell (by have := Hg'.out; have := Hs1.out; show w.heap.size ≤ g'; omega) _).setCell (by have := Hg'.out; have := Hs1.out; show w.heap.size ≤ g'; omega) _).setCell (by simp) _
        · rw [HE.out]; simp
        · rw [HE.out]
      · have d1 : decide ((40 : Int) < (ls.length : Int) + 1) = false := by simp; omega
        have H40 := box h40; clear h40
        go_wp2_with fail
        have hown5 := LeafM.owns_set (ownsRow_setCell_other Hown4.out (a := ⟨B3, 0, none⟩) (by have := HgB.out; simp [Value.ownBlock]; omega) (.slice (some ⟨g', 0, none⟩) (ls.length + 1) cap4)) ls.length (true, t) (by simp)
        obtain ⟨W5, HW5⟩ : ∃ W5, Box (((w4.setCell ⟨B3, 0, none⟩ (.slice (some ⟨g', 0, none⟩) (ls.length + 1) cap4)).setCell ⟨g', ls.length * 2, none⟩ (.bool true)).setCell ⟨g', ls.length * 2 + 1, none⟩ (.string t) = W5) := ⟨_, ⟨rfl⟩⟩
        have hset : (ls ++ [(false, ({ data := #[] } : ByteArray))]).set ls.length (true, t) = ls ++ [(true, t)] := by simp
        simp only [hset] at hown5
        rw [HW5.out] at hown5 ⊢
        have Hown5 := box hown5
        have Hc6' : Box (W5.cell? ⟨w.heap.size + 1, 0, none⟩ = some (.slice none 0 0)) := ⟨by rw [← HW5.out, LeafM.cell_other HgB'.out, LeafM.cell_other HgB'.out, LeafM.cell_other (by have := HB.out; have := Hs2.out; omega)]; exact Hc6.out⟩
        have Hf6' : Box (W5.frozen? ⟨w.heap.size + 1, 0, none⟩ = false) := ⟨by rw [← HW5.out, World.frozen?_setCell, World.frozen?_setCell, World.frozen?_setCell]; exact Hf6.out⟩
        have Hc7 : Box (W5.cell? ⟨B3, 0, none⟩ = some (.slice (some ⟨g', 0, none⟩) (ls.length + 1) cap4)) := ⟨by rw [← HW5.out, LeafM.cell_other HgB.out]; exact hcD⟩
        have HS5 : Box (W5.heap.size = w4.heap.size) := ⟨by rw [← HW5.out]; simp⟩
        have HB5 : Box (Below w.heap.size w W5) := ⟨by rw [← HW5.out]; exact ((Hb5.out.setCell (by have := HB.out; have := Hs2.out; show w.heap.size ≤ B3; omega) _).setCell (by have := Hg'.out; have := Hs1.out; show w.heap.size ≤ g'; omega) _).setCell (by have := Hg'.out; have := Hs1.out; show w.heap.size ≤ g'; omega) _⟩
        clear hown5 hcA2 hcB2 hfA hfB hcC hcD hc5 hf5
        refine (hlen ▸ size_any (ls ++ [(true, t)]) (some ⟨g', 0, none⟩) cap4 W5 (Or.inr ⟨g', 0, rfl, by have := Hgl.out; have := HS5.out; omega, LeafM.owns_slots Hown5.out hlen.symm⟩) (by rw [hlen]; omega) (LeafM.fits_snoc Hf.out Hn.out _ (by have := Ht.out; show t.size ≤ _; omega))).mono ?_
        rintro e w6 ⟨rfl, hb6⟩
        have hc8 := (hb6.cell (p := ⟨w.heap.size + 1, 0, none⟩) (by have := HS5.out; have := Hs2.out; have := HS3.out; have := Hs4.out; show w.heap.size + 1 < W5.heap.size; omega)).trans Hc6'.out
        have hf8 := (hb6.frozen (p := ⟨w.heap.size + 1, 0, none⟩) (by have := HS5.out; have := Hs2.out; have := HS3.out; have := Hs4.out; show w.heap.size + 1 < W5.heap.size; omega)).trans Hf6'.out
        have hc9 := (hb6.cell (p := ⟨B3, 0, none⟩) (by have := HS5.out; have := HB.out; have := HS3.out; have := Hs4.out; show B3 < W5.heap.size; omega)).trans Hc7.out
        have HB6 : Box (Below w.heap.size w w6) := ⟨HB5.out.trans (hb6.mono (by have := HS5.out; have := Hs2.out; have := HS3.out; have := Hs4.out; omega))⟩
        have Hown6 : Box (w6.ownsRow w.heap.size 54 2 (.slice (some ⟨g', 0, none⟩) (ls.length + 1) cap4) (ls.length + 1) (LeafM.cells (ls ++ [(true, t)]))) := ⟨ownsRow_below (ownsRow_mono Hown5.out (by have := Hs1.out; omega)) hb6⟩
        clear hb6
        have Herr := box (LeafM.putErr_end HC.out Ht.out (by have := H40.out; rw [Hout.out, hlen]; omega))
        rw [Hout.out] at Herr
        obtain ⟨Z, HZ⟩ : ∃ Z, Box (LeafM.size (ls ++ [(true, t)]) = Z) := ⟨_, ⟨rfl⟩⟩
        rw [HZ.out]
        by_cases hbig : 512 < Z
        · have hq : decide ((512 : Int) < (Z : Int)) = true := by simp; omega
          have HE : Box (LeafM.putErr ls t = 8) := ⟨by rw [Herr.out, HZ.out, if_pos hbig]⟩
          have Hbig := box hbig; clear hbig
          go_wp2_with fail
          refine bodyPost_ret (v := .tuple #[.agg #[.slice none 0 0], .int .i64 0, .int .i64 8]) (by simp [results, Try.results27, go_sem, hc8]) rfl ⟨HB6.out.setCell (by simp) _, Or.inl ⟨?_, ?_⟩⟩
          · rw [HE.out]; simp
          · rw [HE.out]
        · have hq : decide ((512 : Int) < (Z : Int)) = false := by simp; omega
          have HE : Box (LeafM.putErr ls t = 0) := ⟨by rw [Herr.out, HZ.out, if_neg hbig]⟩
          have Hbig := box hbig; clear hbig
          go_wp2_with fail
          refine bodyPost_ret (v := .tuple #[.agg #[.slice (some ⟨g', 0, none⟩) (ls.length + 1) cap4], .int .i64 (ls.length : Nat), .int .i64 0]) (by simp [results, Try.results27, go_sem, hc8]) rfl ⟨HB6.out.setCell (by simp) _, Or.inr ⟨HE.out, g', cap4, ?_, ?_, ?_⟩⟩
          · rw [Hout.out, hlen, Hff.out]
          · have := Hg'.out; have := Hs1.out; omega
          · rw [Hout.out, hlen]
            exact ownsRow_setCell_other Hown6.out (by have := HgB'.out; simp [Value.ownBlock]; omega) _

end Go.Proofs.Ytnolidjjeknmmaa
