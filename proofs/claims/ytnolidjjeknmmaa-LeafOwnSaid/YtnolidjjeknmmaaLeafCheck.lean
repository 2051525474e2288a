/- leaf.Check and leaf.Free: what they compute. -/
import Derived.Test.YtnolidjjeknmmaaLeaf
namespace Go.Proofs.Ytnolidjjeknmmaa
open Go.RowKit Go.Lib

def LeafM.bad (s : Bool × ByteArray) : Bool := !s.1 && decide (s.2.size ≠ 0)
def LeafM.open? (ls : List (Bool × ByteArray)) : Bool := match ls.getLast? with | some s => !s.1 | none => false
def LeafM.check (ls : List (Bool × ByteArray)) : Int :=
  if 40 < ls.length then 2 else if ls.any LeafM.bad then 4 else if LeafM.open? ls then 4 else if 512 < LeafM.size ls then 8 else 0

theorem LeafM.str_empty {t : ByteArray} (h : t.size = 0) : t.toList.isEmpty = true := by
  rw [ByteArray.toList_eq]
  have : t.data.toList.length = 0 := h
  rw [List.eq_nil_of_length_eq_zero this]; rfl
theorem LeafM.str_full {t : ByteArray} (h : t.size ≠ 0) : t.toList.isEmpty = false := by
  rw [ByteArray.toList_eq]
  have : t.data.toList.length ≠ 0 := h
  cases hl : t.data.toList with
  | nil => rw [hl] at this; simp at this
  | cons c l => rfl

set_option maxRecDepth 20000 in
set_option maxHeartbeats 2000000 in
theorem check_big (ao : Option Addr) (n cap : Nat) (w : World) (h : 40 < n) (hn : n ≤ 9000000000000000) :
    Calls Try.prog 57 #[.agg #[.slice ao n cap]] w fun e w' => e = .returned (.int .i64 2) ∧ Below w.heap.size w w' := by
  have hd : decide ((40 : Int) < (n : Int)) = true := by simp; omega
  have H := box h
  clear h
  go_enter Try.func57, Try.ntmps57
  go_wp2_with fail
  go_ret
  exact ⟨rfl, (Below.refl _ _).alloc (Nat.le_refl _) _⟩

set_option maxRecDepth 20000 in
set_option maxHeartbeats 4000000 in
theorem check_some (ls : List (Bool × ByteArray)) (b off cap : Nat) (w : World) (hb : b < w.heap.size) (hrow : SlotsAt w b off ls)
    (h1 : 1 ≤ ls.length) (hn : ls.length ≤ 40) (ht : ∀ s ∈ ls, s.2.size ≤ 140737488355328) :
    Calls Try.prog 57 #[.agg #[.slice (some ⟨b, off, none⟩) ls.length cap]] w fun e w' => e = .returned (.int .i64 (LeafM.check ls)) ∧ Below w.heap.size w w' := by
  have hd : decide ((40 : Int) < (ls.length : Int)) = false := by simp; omega
  have hd2 : decide (40 < ls.length) = false := by simp; omega
  have Hn := box hn
  have Hrow := box hrow; have Hb := box hb; have Ht := box ht
  clear hrow hb ht
  go_enter Try.func57, Try.ntmps57
  go_wp2_with fail
  have hc0 : (w.alloc (.cells #[.slice (some ⟨b, off, none⟩) ls.length cap] 50)).cell? ⟨w.heap.size, 0, none⟩ = some (.slice (some ⟨b, off, none⟩) ls.length cap) := by simp
  have hB0 : Below w.heap.size w (w.alloc (.cells #[.slice (some ⟨b, off, none⟩) ls.length cap] 50)) := (Below.refl _ _).alloc (Nat.le_refl _) _
  have hS0 : w.heap.size < (w.alloc (.cells #[.slice (some ⟨b, off, none⟩) ls.length cap] 50)).heap.size := by simp
  generalize w.alloc (.cells #[.slice (some ⟨b, off, none⟩) ls.length cap] 50) = W0 at *
  have HB0 := box hB0; have HS0 := box hS0; have HC0 := box hc0
  clear hB0 hS0
  go_loopw [13] (fun t13 wr => ∃ k : Nat, k ≤ ls.length ∧ t13 = .int .i64 (k : Int) ∧ Box ((ls.take k).any LeafM.bad = false) ∧ Below (w.heap.size + 1) W0 wr) (fun t13 _ => ls.length - (intOf t13).toNat)
  case atStart => exact ⟨0, Nat.zero_le _, rfl, ⟨rfl⟩, Below.refl _ _⟩
  case round =>
    obtain ⟨k, hk, rfl, HG, hbr⟩ := hrel
    clear hc0
    by_cases hlt : k < ls.length
    · obtain ⟨hcu, hct⟩ := (Hrow.out.below (HB0.out.trans (hbr.mono (by omega))) Hb.out) k hlt
      have Hbr := box hbr
      have HGn : Box ((ls.take (k + 1)).any LeafM.bad = LeafM.bad ls[k]) := ⟨by
        rw [List.take_succ_eq_append_getElem hlt, List.any_append, HG.out]; simp⟩
      have HA : Box (LeafM.bad ls[k] = true → ls.any LeafM.bad = true) := ⟨fun h => List.any_eq_true.2 ⟨_, List.getElem_mem hlt, h⟩⟩
      generalize hu : ls[k].1 = u at *
      generalize ht : ls[k].2 = t at *
      have Hbad : Box (LeafM.bad ls[k] = (!u && decide (t.size ≠ 0))) := ⟨by unfold LeafM.bad; rw [hu, ht]⟩
      clear hbr hu ht
      cases u with
      | true =>
        go_wp2_with fail
        go_roundw
        case rel => exact ⟨k + 1, hlt, by go_num, ⟨by rw [HGn.out, Hbad.out]; rfl⟩, (Hbr.out.alloc (by have := Hbr.out.size; have := HS0.out; omega) _)⟩
        case measure => simp [intOf]; omega
      | false =>
        by_cases hz : t.size = 0
        · have q := LeafM.str_empty hz
          have Hz := box hz; clear hz
          go_wp2_with fail
          go_roundw
          case rel => exact ⟨k + 1, hlt, by go_num, ⟨by rw [HGn.out, Hbad.out, Hz.out]; rfl⟩, (Hbr.out.alloc (by have := Hbr.out.size; have := HS0.out; omega) _)⟩
          case measure => simp [intOf]; omega
        · have q := LeafM.str_full hz
          have Hz := box hz; clear hz
          go_wp2_with fail
          go_ret
          refine ⟨?_, HB0.out.trans ((Hbr.out.alloc (by have := Hbr.out.size; have := HS0.out; omega) _).mono (by omega))⟩
          have : LeafM.bad ls[k] = true := by rw [Hbad.out]; simp [Hz.out]
          rw [LeafM.check, if_neg (by have := Hn.out; omega), if_pos (HA.out this)]; rfl
    · have HBr := box hbr
      have hcb := (hbr.cell (p := ⟨w.heap.size, 0, none⟩) (by simp)).trans HC0.out
      obtain ⟨hcu, hct⟩ := (Hrow.out.below (HB0.out.trans (hbr.mono (by omega))) Hb.out) (ls.length - 1) (by omega)
      have hrow := box (Hrow.out.below (HB0.out.trans (hbr.mono (by omega))) Hb.out)
      have HG2 : Box (ls.any LeafM.bad = false) := ⟨by have := HG.out; rwa [List.take_of_length_le (by omega)] at this⟩
      have HL : Box (LeafM.open? ls = !(ls[ls.length - 1]'(by omega)).1) := ⟨by
        unfold LeafM.open?
        rw [List.getLast?_eq_getElem?, List.getElem?_eq_getElem (by omega)]⟩
      clear hct hbr
      generalize (ls[ls.length - 1]'(by omega)).1 = u at *
      cases u with
      | false =>
        go_wp2_with fail
        go_ret
        refine ⟨?_, HB0.out.trans (HBr.out.mono (by omega))⟩
        rw [LeafM.check, if_neg (by have := Hn.out; omega), if_neg (by rw [HG2.out]; simp), if_pos (by rw [HL.out]; rfl)]; rfl
      | true =>
        go_wp2_with fail
        have hsz : w.heap.size < wr.heap.size := by have := HBr.out.size; have := HS0.out; omega
        refine (size_some ls b off cap _ (by have := Hb.out; omega) hrow.out (by have := Hn.out; omega) Ht.out).mono ?_
        rintro e w3 ⟨rfl, hb3⟩
        have HB3 := box hb3
        have Hsz := box hsz
        clear hb3 hsz
        by_cases hbig : 512 < LeafM.size ls
        · have hq : decide ((512 : Int) < ((LeafM.size ls : Nat) : Int)) = true := by simp; omega
          have Hbig := box hbig; clear hbig
          obtain ⟨Z, HZ⟩ : ∃ Z, Box (LeafM.size ls = Z) := ⟨_, ⟨rfl⟩⟩
          rw [HZ.out] at hq ⊢
          go_wp2_with fail
          go_ret
          refine ⟨?_, HB0.out.trans ((HBr.out.mono (by omega)).trans (HB3.out.mono (by have := Hsz.out; omega)))⟩
          rw [LeafM.check, if_neg (by have := Hn.out; omega), if_neg (by rw [HG2.out]; simp), if_neg (by rw [HL.out]; simp), if_pos Hbig.out]; rfl
        · have hq : decide ((512 : Int) < ((LeafM.size ls : Nat) : Int)) = false := by simp; omega
          have Hbig := box hbig; clear hbig
          obtain ⟨Z, HZ⟩ : ∃ Z, Box (LeafM.size ls = Z) := ⟨_, ⟨rfl⟩⟩
          rw [HZ.out] at hq ⊢
          go_wp2_with fail
          go_ret
          refine ⟨?_, HB0.out.trans ((HBr.out.mono (by omega)).trans (HB3.out.mono (by have := Hsz.out; omega)))⟩
          rw [LeafM.check, if_neg (by have := Hn.out; omega), if_neg (by rw [HG2.out]; simp), if_neg (by rw [HL.out]; simp), if_neg Hbig.out]; rfl

set_option maxRecDepth 20000 in
set_option maxHeartbeats 1000000 in
theorem check_none (ao : Option Addr) (cap : Nat) (w : World) :
    Calls Try.prog 57 #[.agg #[.slice ao 0 cap]] w fun e w' => e = .returned (.int .i64 0) ∧ Below w.heap.size w w' := by
  have hz : LeafM.size [] = 1 := rfl
  have Hz := box hz; clear hz
  go_enter Try.func57, Try.ntmps57
  go_wp2_with fail
  refine wp_loop_rounds 1 ?_; rw [rounds_succ]
  go_wp2_with fail
  refine (size_none ao cap _).mono ?_
  rintro e w1 ⟨rfl, hb1⟩
  rw [Hz.out]
  have HB1 := box hb1; clear hb1
  go_wp2_with fail
  go_ret
  exact ⟨rfl, ((Below.refl _ _).alloc (Nat.le_refl _) _).trans (HB1.out.mono (by simp))⟩

/-- The slots ls stand where a slice of so many begins. -/
def LeafM.At (w : World) (ao : Option Addr) (ls : List (Bool × ByteArray)) : Prop :=
  ls = [] ∨ ∃ b off, ao = some ⟨b, off, none⟩ ∧ b < w.heap.size ∧ SlotsAt w b off ls
theorem LeafM.At.below {B : Nat} {w w' : World} {ao : Option Addr} {ls : List (Bool × ByteArray)} (h : LeafM.At w ao ls) (hb : Below B w w') (hB : w.heap.size ≤ B) : LeafM.At w' ao ls := by
  rcases h with h | ⟨b, off, h1, h2, h3⟩
  · exact Or.inl h
  · exact Or.inr ⟨b, off, h1, Nat.lt_of_lt_of_le h2 hb.size, h3.below hb (by omega)⟩
/-- The texts are no greater than a machine bears, and so is the number of slots. -/
def LeafM.Fits (ls : List (Bool × ByteArray)) : Prop := ls.length ≤ 9000000000000000 ∧ ∀ s ∈ ls, s.2.size ≤ 140737488355328

theorem size_any (ls : List (Bool × ByteArray)) (ao : Option Addr) (cap : Nat) (w : World) (h : LeafM.At w ao ls) (hn : ls.length ≤ 41) (hf : LeafM.Fits ls) :
    Calls Try.prog 59 #[.agg #[.slice ao ls.length cap]] w fun e w' => e = .returned (.int .i64 (LeafM.size ls : Nat)) ∧ Below w.heap.size w w' := by
  rcases h with rfl | ⟨b, off, rfl, h2, h3⟩
  · exact size_none ao cap w
  · exact size_some ls b off cap w h2 h3 hn hf.2
theorem check_any (ls : List (Bool × ByteArray)) (ao : Option Addr) (cap : Nat) (w : World) (h : LeafM.At w ao ls) (hf : LeafM.Fits ls) :
    Calls Try.prog 57 #[.agg #[.slice ao ls.length cap]] w fun e w' => e = .returned (.int .i64 (LeafM.check ls)) ∧ Below w.heap.size w w' := by
  by_cases hbig : 40 < ls.length
  · have e : LeafM.check ls = 2 := by rw [LeafM.check, if_pos hbig]
    rw [e]; exact check_big ao ls.length cap w hbig hf.1
  · by_cases h0 : ls = []
    · subst h0; exact check_none ao cap w
    · rcases h with rfl | ⟨b, off, rfl, h2, h3⟩
      · exact absurd rfl h0
      · have : ls.length ≠ 0 := fun h => h0 (List.eq_nil_of_length_eq_zero h)
        exact check_some ls b off cap w h2 h3 (by omega) (by omega) hf.2

theorem LeafM.check_le {ls : List (Bool × ByteArray)} (h : LeafM.check ls = 0) : ls.length ≤ 40 ∧ ls.any LeafM.bad = false ∧ LeafM.open? ls = false ∧ LeafM.size ls ≤ 512 := by
  unfold LeafM.check at h
  split at h
  · simp at h
  · split at h
    · simp at h
    · split at h
      · simp at h
      · split at h
        · simp at h
        · rename_i h1 h2 h3 h4
          exact ⟨by omega, by simpa using h2, by simpa using h3, by omega⟩
def LeafM.free (ls : List (Bool × ByteArray)) : Value :=
  if LeafM.check ls = 0 then .tuple #[.int .i64 (512 - (LeafM.size ls : Nat)), .int .i64 0] else .tuple #[.int .i64 0, .int .i64 (LeafM.check ls)]

end Go.Proofs.Ytnolidjjeknmmaa
