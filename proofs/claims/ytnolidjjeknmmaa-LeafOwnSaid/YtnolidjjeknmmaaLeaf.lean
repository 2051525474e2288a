/- leaf: size, slotSize, Check, Free: what they compute. -/
import Derived.Test.YtnolidjjeknmmaaCodeN
namespace Go.Proofs.Ytnolidjjeknmmaa
open Go.RowKit Go.Lib

/-- Cells cs at an address below block number B. -/
def RowAt (B : Nat) (W : World) (ao : Option Addr) (cs : List Value) : Prop :=
  cs = [] ∨ ∃ b off, ao = some ⟨b, off, none⟩ ∧ b < B ∧ ∀ j u, cs[j]? = some u → W.cell? ⟨b, off + j, none⟩ = some u
theorem RowAt.below {B : Nat} {W W' : World} {ao : Option Addr} {cs : List Value} (h : RowAt B W ao cs) {B' : Nat} (hb : Below B' W W') (hB : B ≤ B') : RowAt B W' ao cs := by
  rcases h with h | ⟨b, off, h1, h2, h3⟩
  · exact Or.inl h
  · exact Or.inr ⟨b, off, h1, h2, fun j u hj => (hb.cell (p := ⟨b, off + j, none⟩) (Nat.lt_of_lt_of_le h2 hB)).trans (h3 j u hj)⟩
theorem RowAt.mono {B B' : Nat} {W : World} {ao : Option Addr} {cs : List Value} (h : RowAt B W ao cs) (hB : B ≤ B') : RowAt B' W ao cs := by
  rcases h with h | ⟨b, off, h1, h2, h3⟩
  · exact Or.inl h
  · exact Or.inr ⟨b, off, h1, Nat.lt_of_lt_of_le h2 hB, h3⟩

/-- A page's slots as cells. -/
def LeafM.cells (ls : List (Bool × ByteArray)) : List Value := ls.flatMap fun s => [.bool s.1, .string s.2]
def LeafM.slot (s : Bool × ByteArray) : Nat := if s.1 then (CodeM.putNat (s.2.size + 1)).length + s.2.size else 1
def LeafM.sum : List (Bool × ByteArray) → Nat
  | [] => 0
  | s :: l => LeafM.slot s + LeafM.sum l
def LeafM.size (ls : List (Bool × ByteArray)) : Nat := (CodeM.putNat ls.length).length + LeafM.sum ls

set_option maxRecDepth 20000 in
set_option maxHeartbeats 1000000 in
theorem slotSize_yes (t : ByteArray) (w : World) (ht : t.size ≤ 281474976710656) :
    Calls Try.prog 78 #[.agg #[.bool true, .string t]] w fun e w' => e = .returned (.int .i64 (LeafM.slot (true, t) : Nat)) ∧ Below w.heap.size w w' := by
  have hl := (CodeM.put_len (t.size + 1)).2
  have hls := CodeM.mk_size (CodeM.putNat (t.size + 1))
  have hres : LeafM.slot (true, t) = (CodeM.putNat (t.size + 1)).length + t.size := rfl
  have hput : Box (∀ w, Calls Try.prog 61 #[.int .u64 ((t.size : Int) + 1)] w fun e w' => e = .returned (.string ⟨(CodeM.putNat (t.size + 1)).toArray⟩) ∧ Below w.heap.size w w') :=
    ⟨fun w => by rw [show ((t.size : Int) + 1) = ((t.size + 1 : Nat) : Int) from rfl]; exact putNat_any (t.size + 1) w (by omega)⟩
  generalize ByteArray.mk (CodeM.putNat (t.size + 1)).toArray = A at *
  generalize CodeM.putNat (t.size + 1) = pA at *
  have Hres := box hres
  clear hres
  go_enter Try.func78, Try.ntmps78
  go_wp2_with fail
  have hc0 : (w.alloc (.cells #[.bool true, .string t] 54)).cell? ⟨w.heap.size, 1, none⟩ = some (.string t) := by simp
  have hB0 : Below w.heap.size w (w.alloc (.cells #[.bool true, .string t] 54)) := (Below.refl _ _).alloc (Nat.le_refl _) _
  have hS0 : w.heap.size < (w.alloc (.cells #[.bool true, .string t] 54)).heap.size := by simp
  generalize w.alloc (.cells #[.bool true, .string t] 54) = W0 at *
  have HB0 := box hB0; have HS0 := box hS0
  clear hB0 hS0
  obtain ⟨B, HB⟩ : ∃ B, Box (w.heap.size = B) := ⟨_, ⟨rfl⟩⟩
  rw [HB.out] at hc0 ⊢
  have hi : IntKind.i64.wrap ((t.size : Int) + 1) = (t.size : Int) + 1 := IntWalk.i64_in _ (by omega)
  have hu : IntKind.u64.wrap ((t.size : Int) + 1) = (t.size : Int) + 1 := IntWalk.u64_in _ (by omega)
  have hj : IntKind.i64.wrap ((pA.length : Int) + (t.size : Int)) = (pA.length : Int) + (t.size : Int) := IntWalk.i64_in _ (by omega)
  go_region_held3 (fun w' => w'.cell? ⟨B, 1, none⟩ = some (.string t)) (first | exact hc0 | assumption) (first | (go_at_call 61; refine (hput.out _).mono ?_; rintro e w1 ⟨rfl, hb1⟩; have hc1 : w1.cell? ⟨B, 1, none⟩ = some (.string t) := (hb1.cell (p := ⟨B, 1, none⟩) (by rw [← HB.out]; exact HS0.out)).trans hc0; have Hb1 := box hb1; clear hb1))
  go_wp2_with fail
  go_ret
  exact ⟨by rw [Hres.out]; rfl, HB0.out.drew.trans (Hb1.out.mono (Nat.le_of_lt HS0.out))⟩

set_option maxHeartbeats 1000000 in
theorem slotSize_no (t : ByteArray) (w : World) :
    Calls Try.prog 78 #[.agg #[.bool false, .string t]] w fun e w' => e = .returned (.int .i64 (LeafM.slot (false, t) : Nat)) ∧ Below w.heap.size w w' := by
  go_enter Try.func78, Try.ntmps78
  go_wp2_with fail
  go_ret
  exact ⟨rfl, (Below.refl _ _).alloc (Nat.le_refl _) _⟩

/-- The slots ls stand in block b from place off on. -/
def SlotsAt (w : World) (b off : Nat) (ls : List (Bool × ByteArray)) : Prop :=
  ∀ k (h : k < ls.length), w.cell? ⟨b, off + k * 2, none⟩ = some (.bool ls[k].1) ∧ w.cell? ⟨b, off + k * 2 + 1, none⟩ = some (.string ls[k].2)
theorem SlotsAt.below {B : Nat} {w w' : World} {b off : Nat} {ls : List (Bool × ByteArray)} (h : SlotsAt w b off ls) (hb : Below B w w') (hB : b < B) : SlotsAt w' b off ls :=
  fun k hk => ⟨(hb.cell (p := ⟨b, off + k * 2, none⟩) hB).trans (h k hk).1, (hb.cell (p := ⟨b, off + k * 2 + 1, none⟩) hB).trans (h k hk).2⟩

theorem LeafM.sum_le (ls : List (Bool × ByteArray)) (h : ∀ s ∈ ls, s.2.size ≤ 140737488355328) : LeafM.sum ls ≤ ls.length * 140737488355338 := by
  induction ls with
  | nil => simp [LeafM.sum]
  | cons s l ih =>
    have h1 := ih (fun x hx => h x (by simp [hx]))
    have h2 := h s (by simp)
    have h3 := (CodeM.put_len (s.2.size + 1)).2
    have h4 : LeafM.slot s ≤ 140737488355338 := by unfold LeafM.slot; split <;> omega
    simp only [LeafM.sum, List.length_cons]; omega
theorem LeafM.sum_snoc (l : List (Bool × ByteArray)) (s : Bool × ByteArray) : LeafM.sum (l ++ [s]) = LeafM.sum l + LeafM.slot s := by
  induction l with
  | nil => simp [LeafM.sum]
  | cons x l ih => simp only [List.cons_append, LeafM.sum, ih]; omega

theorem slotSize_any (s : Bool × ByteArray) (w : World) (ht : s.2.size ≤ 140737488355328) :
    Calls Try.prog 78 #[.agg #[.bool s.1, .string s.2]] w fun e w' => e = .returned (.int .i64 (LeafM.slot s : Nat)) ∧ Below w.heap.size w w' := by
  obtain ⟨u, t⟩ := s
  cases u with
  | true => exact slotSize_yes t w (by simp only at ht; omega)
  | false => exact slotSize_no t w

set_option maxRecDepth 20000 in
set_option maxHeartbeats 2000000 in
theorem size_some (ls : List (Bool × ByteArray)) (b off cap : Nat) (w : World) (hb : b < w.heap.size) (hrow : SlotsAt w b off ls)
    (hn : ls.length ≤ 41) (ht : ∀ s ∈ ls, s.2.size ≤ 140737488355328) :
    Calls Try.prog 59 #[.agg #[.slice (some ⟨b, off, none⟩) ls.length cap]] w fun e w' => e = .returned (.int .i64 (LeafM.size ls : Nat)) ∧ Below w.heap.size w w' := by
  have hl := (CodeM.put_len ls.length).2
  have hls := CodeM.mk_size (CodeM.putNat ls.length)
  have Hsz := box (show LeafM.size ls = (CodeM.putNat ls.length).length + LeafM.sum ls from rfl)
  have Hput := box (fun w => putNat_any ls.length w (by omega))
  generalize ByteArray.mk (CodeM.putNat ls.length).toArray = A at *
  generalize CodeM.putNat ls.length = pA at *
  have Hrow := box hrow; have Hb := box hb; have Ht := box ht
  clear hrow hb ht
  go_enter Try.func59, Try.ntmps59
  go_wp2_with fail
  refine (Hput.out _).mono ?_
  rintro e w1 ⟨rfl, hb1⟩
  have hc1 : w1.cell? ⟨w.heap.size, 0, none⟩ = some (.slice (some ⟨b, off, none⟩) ls.length cap) := (hb1.cell (p := ⟨w.heap.size, 0, none⟩) (by simp)).trans (by simp)
  have HB1 := box ((((Below.refl w.heap.size w).alloc (Nat.le_refl _) _).trans (hb1.mono (by simp))))
  clear hb1
  go_wp2_with fail
  go_loopw [3, 15] (fun t3 t15 wr => ∃ k S : Nat, k ≤ ls.length ∧ t15 = .int .i64 (k : Int) ∧ t3 = .int .i64 (S : Int) ∧ Box (pA.length + LeafM.sum (ls.take k) = S) ∧ Below w.heap.size w wr) (fun _ t15 _ => ls.length - (intOf t15).toNat)
  case atStart => exact ⟨0, _, Nat.zero_le _, rfl, rfl, ⟨rfl⟩, HB1.out⟩
  case round =>
    obtain ⟨k, S, hk, rfl, rfl, HS, hbr⟩ := hrel
    have hSb : (S : Int) ≤ 9000000000000000 := by
      have h1 := LeafM.sum_le (ls.take k) (fun s hs => Ht.out s (List.mem_of_mem_take hs))
      have h2 : (ls.take k).length ≤ 41 := by simp; omega
      have h3 : (ls.take k).length * 140737488355338 ≤ 41 * 140737488355338 := Nat.mul_le_mul_right _ h2
      have := HS.out
      omega
    by_cases hlt : k < ls.length
    · have hrow := Hrow.out.below hbr Hb.out
      obtain ⟨hcu, hct⟩ := hrow k hlt
      have htk := Ht.out ls[k] (List.getElem_mem hlt)
      have Hss := box (fun w => slotSize_any ls[k] w htk)
      have htb : ((LeafM.slot ls[k] : Nat) : Int) ≤ 200000000000000 := by
        have h3 := (CodeM.put_len (ls[k].2.size + 1)).2
        unfold LeafM.slot; split <;> omega
      have HT : Box (LeafM.sum (ls.take (k + 1)) = LeafM.sum (ls.take k) + LeafM.slot ls[k]) := ⟨by
        rw [List.take_succ_eq_append_getElem hlt, LeafM.sum_snoc]⟩
      generalize LeafM.slot ls[k] = T at *
      generalize hu : ls[k].1 = u at *
      generalize ht : ls[k].2 = t at *
      have Hbr := box hbr
      have Htk := box htk
      clear hbr hu ht hrow htk
      go_wp2_with fail
      refine (Hss.out _).mono ?_
      rintro e w2 ⟨rfl, hb2⟩
      have Hb2 := box hb2
      clear hb2
      go_wp2_with fail
      go_roundw
      case rel => exact ⟨k + 1, S + T, hlt, by go_num, by go_num, ⟨by rw [HT.out, ← HS.out]; omega⟩, (Hbr.out.alloc Hbr.out.size _).trans (Hb2.out.mono (by have := Hbr.out.size; simp; omega))⟩
      case measure => simp [intOf]; omega
    · have HBr := box hbr
      clear hbr
      go_wp2_with fail
      go_ret
      refine ⟨?_, HBr.out⟩
      have hS := HS.out
      rw [List.take_of_length_le (by omega)] at hS
      rw [Hsz.out, hS]; rfl

set_option maxRecDepth 20000 in
set_option maxHeartbeats 1000000 in
theorem size_none (ao : Option Addr) (cap : Nat) (w : World) :
    Calls Try.prog 59 #[.agg #[.slice ao 0 cap]] w fun e w' => e = .returned (.int .i64 (LeafM.size [] : Nat)) ∧ Below w.heap.size w w' := by
  have Hput : Box (∀ w, Calls Try.prog 61 #[.int .u64 0] w fun e w' => e = .returned (.string { data := #[0] }) ∧ Below w.heap.size w w') := ⟨fun w => putNat_any 0 w (by omega)⟩
  go_enter Try.func59, Try.ntmps59
  go_wp2_with fail
  refine (Hput.out _).mono ?_
  rintro e w1 ⟨rfl, hb1⟩
  have hc1 : w1.cell? ⟨w.heap.size, 0, none⟩ = some (.slice ao 0 cap) := (hb1.cell (p := ⟨w.heap.size, 0, none⟩) (by simp)).trans (by simp)
  have HB1 := box ((((Below.refl w.heap.size w).alloc (Nat.le_refl _) _).trans (hb1.mono (by simp))))
  clear hb1
  go_wp2_with fail
  refine wp_loop_rounds 1 ?_; rw [rounds_succ]
  go_wp2_with fail
  go_ret
  exact ⟨rfl, HB1.out⟩
end Go.Proofs.Ytnolidjjeknmmaa
