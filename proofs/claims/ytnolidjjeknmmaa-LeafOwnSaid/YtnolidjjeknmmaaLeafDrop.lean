/- leaf.Drop: what it computes. -/
import Derived.Test.YtnolidjjeknmmaaLeafGet
import Derived.Test.YtnolidjjeknmmaaLeafPut2
namespace Go.Proofs.Ytnolidjjeknmmaa
open Go.RowKit Go.Lib

/-- n is where the used slots end. -/
def LeafM.Ends (ls : List (Bool × ByteArray)) (n : Nat) : Prop :=
  n ≤ ls.length ∧ (∀ j (h : j < ls.length), n ≤ j → ls[j].1 = false) ∧ (n = 0 ∨ ∃ h : n - 1 < ls.length, ls[n - 1].1 = true)

def LeafM.cut (ls : List (Bool × ByteArray)) (k : Int) : List (Bool × ByteArray) := ls.set k.toNat (false, { data := #[] })

def LeafM.DropPost (ls : List (Bool × ByteArray)) (k : Int) (w : World) (e : Ending) (w' : World) : Prop :=
  Below w.heap.size w w' ∧
    (((LeafM.get ls k).2 ≠ 0 ∧ e = .returned (.tuple #[.agg #[.slice none 0 0], .int .i64 (LeafM.get ls k).2])) ∨
     ((LeafM.get ls k).2 = 0 ∧ ∃ g n, e = .returned (.tuple #[.agg #[.slice (some ⟨g, 0, none⟩) n n], .int .i64 0]) ∧ LeafM.Ends (LeafM.cut ls k) n ∧
       w.heap.size ≤ g ∧ g < w'.heap.size ∧ SlotsAt w' g 0 ((LeafM.cut ls k).take n)))

theorem LeafM.get_zero {ls : List (Bool × ByteArray)} {k : Int} (h : (LeafM.get ls k).2 = 0) : ∃ j : Nat, k = (j : Int) ∧ ∃ h : j < ls.length, ls[j].1 = true ∧ LeafM.check ls = 0 ∧ LeafM.get ls k = (ls[j].2, 0) := by
  unfold LeafM.get at h ⊢
  by_cases hc : LeafM.check ls ≠ 0
  · rw [if_pos hc] at h; exact absurd h hc
  rw [if_neg hc] at h ⊢
  by_cases hk : k < 0
  · rw [if_pos hk] at h; simp at h
  rw [if_neg hk] at h ⊢
  refine ⟨k.toNat, by omega, ?_⟩
  by_cases hl : k.toNat < ls.length
  · rw [List.getElem?_eq_getElem hl] at h ⊢
    simp only at h ⊢
    by_cases hu : ls[k.toNat].1
    · exact ⟨hl, hu, by simpa using hc, by rw [if_pos hu]⟩
    · rw [if_neg hu] at h; simp at h
  · rw [List.getElem?_eq_none (by omega)] at h; simp at h

set_option maxRecDepth 20000 in
set_option maxHeartbeats 4000000 in
theorem leafDrop_any (ls : List (Bool × ByteArray)) (ao : Option Addr) (cap : Nat) (k : Int) (w : World) (h : LeafM.At w ao ls) (hf : LeafM.Fits ls) (hnil : ao = none → cap = 0) :
    Calls Try.prog 29 #[.agg #[.slice ao ls.length cap], .int .i64 k] w (LeafM.DropPost ls k w) := by
  have H := box h; have Hf := box hf
  have Hnil := box hnil
  clear h hf hnil
  go_enter Try.func29, Try.ntmps29
  go_wp2_with fail
  refine (leafGet_any ls ao cap k _ (H.out.below (((Below.refl w.heap.size w).alloc (Nat.le_refl _) _).alloc (by simp) _) (Nat.le_refl _)) Hf.out).mono ?_
  rintro e w1 ⟨rfl, hb1⟩
  have hx0 : ((w.alloc (.cells #[.slice ao ls.length cap] 50)).alloc (.cells #[.slice none 0 0] 50)).cell? ⟨w.heap.size, 0, none⟩ = some (.slice ao ls.length cap) := by go_simp
  have hx1 : ((w.alloc (.cells #[.slice ao ls.length cap] 50)).alloc (.cells #[.slice none 0 0] 50)).cell? ⟨w.heap.size + 1, 0, none⟩ = some (.slice none 0 0) := by go_simp
  have hx2 : ((w.alloc (.cells #[.slice ao ls.length cap] 50)).alloc (.cells #[.slice none 0 0] 50)).frozen? ⟨w.heap.size + 1, 0, none⟩ = false := by go_simp
  have hc0 : w1.cell? ⟨w.heap.size, 0, none⟩ = some (.slice ao ls.length cap) := (hb1.cell (p := ⟨w.heap.size, 0, none⟩) (by simp; omega)).trans hx0
  have hc1 : w1.cell? ⟨w.heap.size + 1, 0, none⟩ = some (.slice none 0 0) := ((hb1.cell (p := ⟨w.heap.size + 1, 0, none⟩) (by simp)).trans hx1)
  have hf1 : w1.frozen? ⟨w.heap.size + 1, 0, none⟩ = false := ((hb1.frozen (p := ⟨w.heap.size + 1, 0, none⟩) (by simp)).trans hx2)
  have HB1 : Box (Below w.heap.size w w1) := ⟨(((Below.refl w.heap.size w).alloc (Nat.le_refl _) _).alloc (by simp) _).trans (hb1.mono (by simp; omega))⟩
  have Hs1 : Box (w.heap.size + 2 ≤ w1.heap.size) := ⟨by have := hb1.size; simp at this; omega⟩
  clear hb1 hx0 hx1 hx2
  by_cases hc : (LeafM.get ls k).2 = 0
  · obtain ⟨j, rfl, hj, hju, hchk, hget⟩ := LeafM.get_zero hc
    have Hc := box hc; have Hju := box hju; have Hget := box hget
    have hn := (LeafM.check_le hchk).1
    rw [hget]
    clear hc hju hchk hget
    have hc1' := box hc1; have hf1' := box hf1
    clear hc1 hf1
    unfold LeafM.tupG
    go_wp2_with fail
    refine (copied_any ls ao cap _ (H.out.below HB1.out (Nat.le_refl _)) Hnil.out (by omega)).mono ?_
    rintro e w2 ⟨v, rfl, hown, hb2, hv⟩
    obtain ⟨g, cap', hv', hg1, hg2, hg3⟩ := ownsRow_shape hown hv
    rw [hv'] at hown ⊢
    have HB2 := box (HB1.out.trans (hb2.mono (by have := Hs1.out; omega)))
    have Hc2 := box ((hb2.cell (p := ⟨w.heap.size + 1, 0, none⟩) (Nat.lt_of_lt_of_le (Nat.lt_succ_self (w.heap.size + 1)) Hs1.out)).trans hc1'.out)
    have Hf2 := box ((hb2.frozen (p := ⟨w.heap.size + 1, 0, none⟩) (Nat.lt_of_lt_of_le (Nat.lt_succ_self (w.heap.size + 1)) Hs1.out)).trans hf1'.out)
    have Hs2 := box (Nat.le_trans Hs1.out hb2.size)
    have Hg1 := box hg1; have Hg2 := box hg2
    have hown3 := hown.alloc (.cells #[.slice (some ⟨g, 0, none⟩) ls.length cap'] 50)
    have hgB : g ≠ w2.heap.size := by omega
    have hc3 : (w2.alloc (.cells #[.slice (some ⟨g, 0, none⟩) ls.length cap'] 50)).cell? ⟨w2.heap.size, 0, none⟩ = some (.slice (some ⟨g, 0, none⟩) ls.length cap') := by go_simp
    have hf3 : (w2.alloc (.cells #[.slice (some ⟨g, 0, none⟩) ls.length cap'] 50)).frozen? ⟨w2.heap.size, 0, none⟩ = false := by go_simp
    have HB3 : Box (Below w.heap.size w (w2.alloc (.cells #[.slice (some ⟨g, 0, none⟩) ls.length cap'] 50))) := ⟨HB2.out.alloc (by have := Hs2.out; omega) _⟩
    have HB23 : Box (Below w2.heap.size w2 (w2.alloc (.cells #[.slice (some ⟨g, 0, none⟩) ls.length cap'] 50))) := ⟨(Below.refl _ _).alloc (Nat.le_refl _) _⟩
    have HS3 : Box ((w2.alloc (.cells #[.slice (some ⟨g, 0, none⟩) ls.length cap'] 50)).heap.size = w2.heap.size + 1) := ⟨by simp⟩
    have Hc4 := box ((HB23.out.cell (p := ⟨w.heap.size + 1, 0, none⟩) (Nat.lt_of_lt_of_le (Nat.lt_succ_self (w.heap.size + 1)) Hs2.out)).trans Hc2.out)
    have Hf4 := box ((HB23.out.frozen (p := ⟨w.heap.size + 1, 0, none⟩) (Nat.lt_of_lt_of_le (Nat.lt_succ_self (w.heap.size + 1)) Hs2.out)).trans Hf2.out)
    have hfu := hown3.frozenAt (j * 2)
    have hft := hown3.frozenAt (j * 2 + 1)
    have hslj := LeafM.owns_slots hown3 rfl j hj
    obtain ⟨hcu, hct⟩ := hslj
    rw [Nat.zero_add] at hcu hct
    have Hown3 := box hown3
    have hj2 : j * 2 < ls.length * 2 := by omega
    have hc5 : ((w2.alloc (.cells #[.slice (some ⟨g, 0, none⟩) ls.length cap'] 50)).setCell ⟨g, j * 2, none⟩ (.bool false)).cell? ⟨w2.heap.size, 0, none⟩ = some (.slice (some ⟨g, 0, none⟩) ls.length cap') := by rw [LeafM.cell_other hgB]; exact hc3
    have hc6 : (((w2.alloc (.cells #[.slice (some ⟨g, 0, none⟩) ls.length cap'] 50)).setCell ⟨g, j * 2, none⟩ (.bool false)).setCell ⟨g, j * 2 + 1, none⟩ (.string { data := #[] })).cell? ⟨w2.heap.size, 0, none⟩ = some (.slice (some ⟨g, 0, none⟩) ls.length cap') := by rw [LeafM.cell_other hgB]; exact hc5
    have HgB := box hgB
    have Hcut : Box (LeafM.cut ls (j : Int) = ls.set j (false, { data := #[] })) := ⟨by unfold LeafM.cut; rw [Int.toNat_natCast]⟩
    clear hown hown3 hb2 hv hv' hg1 hg2 hc0 hgB
    go_wp2_with fail
    have hown5 := LeafM.owns_set Hown3.out j (false, { data := #[] }) hj
    have HB5 : Box (Below w.heap.size w (((w2.alloc (.cells #[.slice (some ⟨g, 0, none⟩) ls.length cap'] 50)).setCell ⟨g, j * 2, none⟩ (.bool false)).setCell ⟨g, j * 2 + 1, none⟩ (.string { data := #[] }))) := ⟨(HB3.out.setCell (by have := Hg1.out; have := Hs1.out; show w.heap.size ≤ g; omega) _).setCell (by have := Hg1.out; have := Hs1.out; show w.heap.size ≤ g; omega) _⟩
    have hgB' : g ≠ w.heap.size + 1 := by have := Hg1.out; have := Hs1.out; omega
    have HgB' := box hgB'; clear hgB'
    have Hc6 : Box ((((w2.alloc (.cells #[.slice (some ⟨g, 0, none⟩) ls.length cap'] 50)).setCell ⟨g, j * 2, none⟩ (.bool false)).setCell ⟨g, j * 2 + 1, none⟩ (.string { data := #[] })).cell? ⟨w.heap.size + 1, 0, none⟩ = some (.slice none 0 0)) := ⟨by rw [LeafM.cell_other HgB'.out, LeafM.cell_other HgB'.out]; exact Hc4.out⟩
    have Hf6 : Box ((((w2.alloc (.cells #[.slice (some ⟨g, 0, none⟩) ls.length cap'] 50)).setCell ⟨g, j * 2, none⟩ (.bool false)).setCell ⟨g, j * 2 + 1, none⟩ (.string { data := #[] })).frozen? ⟨w.heap.size + 1, 0, none⟩ = false) := ⟨by rw [World.frozen?_setCell, World.frozen?_setCell]; exact Hf4.out⟩
    have hf7 : (((w2.alloc (.cells #[.slice (some ⟨g, 0, none⟩) ls.length cap'] 50)).setCell ⟨g, j * 2, none⟩ (.bool false)).setCell ⟨g, j * 2 + 1, none⟩ (.string { data := #[] })).frozen? ⟨w2.heap.size, 0, none⟩ = false := by rw [World.frozen?_setCell, World.frozen?_setCell]; exact hf3
    have HS5 : Box ((((w2.alloc (.cells #[.slice (some ⟨g, 0, none⟩) ls.length cap'] 50)).setCell ⟨g, j * 2, none⟩ (.bool false)).setCell ⟨g, j * 2 + 1, none⟩ (.string { data := #[] })).heap.size = w2.heap.size + 1) := ⟨by simp⟩
    clear hc3 hf3 hfu hft hcu hct hc5
    generalize (((w2.alloc (.cells #[.slice (some ⟨g, 0, none⟩) ls.length cap'] 50)).setCell ⟨g, j * 2, none⟩ (.bool false)).setCell ⟨g, j * 2 + 1, none⟩ (.string { data := #[] })) = W5 at *
    have hlen : (ls.set j (false, ({ data := #[] } : ByteArray))).length = ls.length := List.length_set
    obtain ⟨ms, HM⟩ : ∃ ms, Box (ls.set j (false, ({ data := #[] } : ByteArray)) = ms) := ⟨_, ⟨rfl⟩⟩
    rw [HM.out] at hlen hown5
    have Hcut2 : Box (LeafM.cut ls (j : Int) = ms) := ⟨Hcut.out.trans HM.out⟩
    have Hown5 := box hown5
    obtain ⟨B3, HB⟩ : ∃ B3, Box (w2.heap.size = B3) := ⟨_, ⟨rfl⟩⟩
    rw [HB.out] at hc6 hf7 ⊢
    clear hown5
    have HB3n : Box (B3 ≠ w.heap.size + 1) := ⟨by have := HB.out; have := Hs2.out; omega⟩
    go_loop [9] (fun t9 => ∃ n : Nat, n ≤ ls.length ∧ t9 = .int .i64 (n : Int) ∧ Box (∀ j (h : j < ms.length), n ≤ j → ms[j].1 = false)) (fun t9 => (intOf t9).toNat)
    case atStart => exact ⟨ls.length, Nat.le_refl _, rfl, ⟨fun j h hj => by omega⟩⟩
    case round =>
      obtain ⟨n, hn', rfl, Hall⟩ := hrel
      have hsl := LeafM.owns_slots Hown5.out hlen.symm
      cases n with
      | zero =>
        clear hsl
        have hc8 : (W5.setCell ⟨B3, 0, none⟩ (.slice (some ⟨g, 0, none⟩) 0 0)).cell? ⟨w.heap.size + 1, 0, none⟩ = some (.slice none 0 0) := by rw [LeafM.cell_other HB3n.out]; exact Hc6.out
        have hc9 : (W5.setCell ⟨B3, 0, none⟩ (.slice (some ⟨g, 0, none⟩) 0 0)).cell? ⟨B3, 0, none⟩ = some (.slice (some ⟨g, 0, none⟩) 0 0) := World.cell?_setCell_same _ _ _ hc6
        have hf8 := Hf6.out
        go_wp2_with fail
        refine bodyPost_ret (v := .tuple #[.agg #[.slice (some ⟨g, 0, none⟩) 0 0], .int .i64 0]) (by simp [results, Try.results29, go_sem, hc8]) rfl ⟨(HB5.out.setCell (by have := HB.out; have := Hs2.out; show w.heap.size ≤ B3; omega) _).setCell (by simp) _, Or.inr ⟨by rw [Hget.out], g, 0, rfl, ?_, ?_, ?_, ?_⟩⟩
        · rw [Hcut2.out]; exact ⟨Nat.zero_le _, Hall.out, Or.inl rfl⟩
        · have := Hg1.out; have := Hs1.out; omega
        · have := Hg2.out; have := HS5.out; simp only [World.size_setCell]; omega
        · rw [Hcut2.out]; exact fun i hi => absurd hi (by simp)
      | succ m =>
        obtain ⟨hcu, hct⟩ := hsl m (by omega)
        rw [Nat.zero_add] at hcu hct
        have hm2 : m * 2 < ls.length * 2 := by omega
        have Hsl := box hsl; clear hsl
        cases hu : ms[m].1 with
        | true =>
          have Hu := box hu
          rw [hu] at hcu
          clear hu hct
          have hc8 : (W5.setCell ⟨B3, 0, none⟩ (.slice (some ⟨g, 0, none⟩) (m + 1) (m + 1))).cell? ⟨w.heap.size + 1, 0, none⟩ = some (.slice none 0 0) := by rw [LeafM.cell_other HB3n.out]; exact Hc6.out
          have hc9 : (W5.setCell ⟨B3, 0, none⟩ (.slice (some ⟨g, 0, none⟩) (m + 1) (m + 1))).cell? ⟨B3, 0, none⟩ = some (.slice (some ⟨g, 0, none⟩) (m + 1) (m + 1)) := World.cell?_setCell_same _ _ _ hc6
          have hf8 := Hf6.out
          go_wp2_with fail
          refine bodyPost_ret (v := .tuple #[.agg #[.slice (some ⟨g, 0, none⟩) (m + 1) (m + 1)], .int .i64 0]) (by simp [results, Try.results29, go_sem, hc8]) rfl ⟨(HB5.out.setCell (by have := HB.out; have := Hs2.out; show w.heap.size ≤ B3; omega) _).setCell (by simp) _, Or.inr ⟨by rw [Hget.out], g, m + 1, rfl, ?_, ?_, ?_, ?_⟩⟩
          · rw [Hcut2.out]; exact ⟨by omega, Hall.out, Or.inr ⟨by omega, Hu.out⟩⟩
          · have := Hg1.out; have := Hs1.out; omega
          · have := Hg2.out; have := HS5.out; simp only [World.size_setCell]; omega
          · rw [Hcut2.out]
            intro i hi
            have hi' : i < ms.length := by simp at hi; omega
            obtain ⟨a1, a2⟩ := Hsl.out i hi'
            rw [LeafM.cell_other (Ne.symm HgB'.out), LeafM.cell_other (by have := HgB.out; have := HB.out; omega), LeafM.cell_other (Ne.symm HgB'.out), LeafM.cell_other (by have := HgB.out; have := HB.out; omega)]
            exact ⟨by simpa using a1, by simpa using a2⟩
        | false =>
          have Hu := box hu
          rw [hu] at hcu
          clear hu hct
          go_wp2_with fail
          go_round
          case rel => exact ⟨m, by omega, rfl, ⟨fun j h hj => by
            by_cases e : j = m
            · subst e; exact Hu.out
            · exact Hall.out j h (by omega)⟩⟩
          case measure => simp [intOf]
  · have g1 : ((LeafM.get ls k).2 == 0) = false := by simp [hc]
    have g2 : ((LeafM.get ls k).2 != 0) = true := by simp [hc]
    have H0 := box hc; clear hc
    unfold LeafM.tupG
    obtain ⟨c, HC⟩ : ∃ c, Box ((LeafM.get ls k).2 = c) := ⟨_, ⟨rfl⟩⟩
    rw [HC.out] at g1 g2 ⊢
    go_wp2_with fail
    refine bodyPost_ret (v := .tuple #[.agg #[.slice none 0 0], .int .i64 c]) (by simp [results, Try.results29, go_sem, hc1]) rfl ⟨HB1.out.setCell (by simp) _, Or.inl ⟨H0.out, ?_⟩⟩
    rw [HC.out]
end Go.Proofs.Ytnolidjjeknmmaa
