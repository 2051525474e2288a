/- leaf.Text: what it computes. -/
import Derived.Test.YtnolidjjeknmmaaLeafBackM
namespace Go.Proofs.Ytnolidjjeknmmaa
open Go.RowKit Go.Lib

def LeafM.textV (ls : List (Bool × ByteArray)) : Value :=
  if LeafM.check ls = 0 then .tuple #[.string ⟨(LeafM.text ls).toArray⟩, .int .i64 0] else .tuple #[.string ⟨#[]⟩, .int .i64 (LeafM.check ls)]
theorem LeafM.body_take (ls : List (Bool × ByteArray)) (k : Nat) (h : k < ls.length) : LeafM.body (ls.take (k + 1)) = LeafM.body (ls.take k) ++ LeafM.enc ls[k] := by
  rw [List.take_succ_eq_append_getElem h, LeafM.body, List.flatMap_append]; simp [LeafM.body]
theorem LeafM.body_len (ls : List (Bool × ByteArray)) : (LeafM.body ls).length = LeafM.sum ls := by
  have h := LeafM.text_len ls
  rw [LeafM.text, List.length_append, LeafM.size] at h; omega
theorem LeafM.sum_take_le (ls : List (Bool × ByteArray)) (k : Nat) : LeafM.sum (ls.take k) ≤ LeafM.sum ls := by
  induction ls generalizing k with
  | nil => simp
  | cons s l ih =>
    cases k with
    | zero => simp [LeafM.sum]
    | succ k => simp only [List.take_succ_cons, LeafM.sum]; have := ih k; omega
theorem ba_ext {a b : ByteArray} (h : a.data.toList = b.data.toList) : a = b := by
  obtain ⟨⟨x⟩⟩ := a; obtain ⟨⟨y⟩⟩ := b; simp at h; subst h; rfl

set_option maxRecDepth 20000 in
set_option maxHeartbeats 2000000 in
theorem text_any (ls : List (Bool × ByteArray)) (ao : Option Addr) (cap : Nat) (w : World) (h : LeafM.At w ao ls) (hf : LeafM.Fits ls) :
    Calls Try.prog 30 #[.agg #[.slice ao ls.length cap]] w fun e w' => e = .returned (LeafM.textV ls) ∧ Below w.heap.size w w' := by
  have H := box h; have Hf := box hf
  clear h hf
  go_enter Try.func30, Try.ntmps30
  go_wp2_with fail
  refine (check_any ls ao cap _ (H.out.below ((Below.refl _ _).alloc (Nat.le_refl _) _) (Nat.le_refl _)) Hf.out).mono ?_
  rintro e w1 ⟨rfl, hb1⟩
  have hc1 : w1.cell? ⟨w.heap.size, 0, none⟩ = some (.slice ao ls.length cap) := (hb1.cell (p := ⟨w.heap.size, 0, none⟩) (by simp)).trans (by simp)
  have HB1 := box ((((Below.refl w.heap.size w).alloc (Nat.le_refl _) (.cells #[.slice ao ls.length cap] 50)).trans (hb1.mono (by simp))))
  have Hsz : Box (w.heap.size < w1.heap.size) := ⟨by have := hb1.size; simp at this; omega⟩
  clear hb1
  obtain ⟨c, HC⟩ : ∃ c, Box (LeafM.check ls = c) := ⟨_, ⟨rfl⟩⟩
  rw [HC.out]
  by_cases h0 : c = 0
  case neg =>
    have g1 : (c == 0) = false := by simp [h0]
    have g2 : (c != 0) = true := by simp [h0]
    have H0 := box h0; clear h0
    go_wp2_with fail
    go_ret2
    exact ⟨by rw [LeafM.textV, HC.out, if_neg H0.out]; rfl, HB1.out⟩
  subst h0
  obtain ⟨l1, _, _, l4⟩ := LeafM.check_le HC.out
  have Hput := box (fun w => putNat_any ls.length w (by omega))
  have L4 := box l4
  clear l4
  go_wp2_with fail
  refine (Hput.out _).mono ?_
  rintro e w2 ⟨rfl, hb2⟩
  have hc2 := (hb2.cell (p := ⟨w.heap.size, 0, none⟩) Hsz.out).trans hc1
  have HB2 := box (HB1.out.trans (hb2.mono (Nat.le_of_lt Hsz.out)))
  have Hs2 := box (Nat.lt_of_lt_of_le Hsz.out hb2.size)
  clear hb2 hc1
  go_wp2_with fail
  go_loopw [5, 21] (fun t5 t21 wr => ∃ (k : Nat) (A : ByteArray), k ≤ ls.length ∧ t21 = .int .i64 (k : Int) ∧ t5 = .string A ∧ Box (A.data.toList = CodeM.putNat ls.length ++ LeafM.body (ls.take k)) ∧ Below w.heap.size w wr ∧ w.heap.size < wr.heap.size) (fun _ t21 _ => ls.length - (intOf t21).toNat)
  case atStart => exact ⟨0, _, Nat.zero_le _, rfl, rfl, ⟨by simp [LeafM.body]⟩, HB2.out, Hs2.out⟩
  case round =>
    obtain ⟨k, A, hk, rfl, rfl, HA, hbr, hsr⟩ := hrel
    have hAs : A.size ≤ 512 := by
      have h1 : A.data.toList.length = A.size := rfl
      rw [HA.out, List.length_append, LeafM.body_len] at h1
      have h2 := LeafM.sum_take_le ls k
      have h3 := L4.out
      unfold LeafM.size at h3
      omega
    have HBr := box hbr; have Hsr := box hsr
    clear hbr hsr hc2
    by_cases hlt : k < ls.length
    · obtain ⟨b, off, rfl, hb, hrow⟩ := ((H.out.below HBr.out (Nat.le_refl _)).resolve_left (by intro h; rw [h] at hlt; simp at hlt))
      obtain ⟨hcu, hct⟩ := hrow k hlt
      have HT := box (LeafM.body_take ls k hlt)
      have hts : ls[k].2.size ≤ 512 ∨ ls[k].1 = false := by
        cases hu : ls[k].1 with
        | false => exact Or.inr rfl
        | true =>
          have h1 := LeafM.slot_le_sum (List.getElem_mem hlt)
          have h3 := L4.out
          unfold LeafM.size at h3
          unfold LeafM.slot at h1
          rw [if_pos hu] at h1
          exact Or.inl (by omega)
      generalize hs : ls[k] = s at *
      obtain ⟨u, t⟩ := s
      simp only at hcu hct hts
      clear hs hrow hb
      cases u with
      | true =>
        have hts' : t.size ≤ 512 := hts.resolve_right (by simp)
        have hl := (CodeM.put_len (t.size + 1)).2
        have hls := CodeM.mk_size (CodeM.putNat (t.size + 1))
        have HE : Box (LeafM.enc (true, t) = (ByteArray.mk (CodeM.putNat (t.size + 1)).toArray).data.toList ++ t.data.toList) := ⟨by simp [LeafM.enc]⟩
        have hput : Box (∀ w, Calls Try.prog 61 #[.int .u64 ((t.size : Int) + 1)] w fun e w' => e = .returned (.string ⟨(CodeM.putNat (t.size + 1)).toArray⟩) ∧ Below w.heap.size w w') :=
          ⟨fun w => by rw [show ((t.size : Int) + 1) = ((t.size + 1 : Nat) : Int) from rfl]; exact putNat_any (t.size + 1) w (by omega)⟩
        clear hts
        generalize ByteArray.mk (CodeM.putNat (t.size + 1)).toArray = pA at *
        generalize CodeM.putNat (t.size + 1) = lA at *
        go_wp2_with fail
        have hc0 : (wr.alloc (.cells #[.bool true, .string t] 54)).cell? ⟨wr.heap.size, 1, none⟩ = some (.string t) := by simp
        have HB0 : Box (Below w.heap.size w (wr.alloc (.cells #[.bool true, .string t] 54))) := ⟨HBr.out.alloc (Nat.le_of_lt Hsr.out) _⟩
        have HS0 : Box (wr.heap.size < (wr.alloc (.cells #[.bool true, .string t] 54)).heap.size) := ⟨by simp⟩
        generalize wr.alloc (.cells #[.bool true, .string t] 54) = W0 at *
        obtain ⟨B, HB⟩ : ∃ B, Box (wr.heap.size = B) := ⟨_, ⟨rfl⟩⟩
        rw [HB.out] at hc0 ⊢
        have hi : IntKind.i64.wrap ((t.size : Int) + 1) = (t.size : Int) + 1 := IntWalk.i64_in _ (by omega)
        have hu : IntKind.u64.wrap ((t.size : Int) + 1) = (t.size : Int) + 1 := IntWalk.u64_in _ (by omega)
        have e1 : ∀ w, Sem.run Try.prog (Op.stringOp .add pA t) w = .ok (.string (pA ++ t)) w := fun w => run_string_add_sum w _ _ (by omega)
        have e2 : ∀ w, Sem.run Try.prog (Op.stringOp .add A (pA ++ t)) w = .ok (.string (A ++ (pA ++ t))) w := fun w => run_string_add_sum w _ _ (by rw [ByteArray.size_append]; omega)
        go_region_held3 (fun w' => w'.cell? ⟨B, 1, none⟩ = some (.string t)) (first | exact hc0 | assumption) (first | (go_at_call 61; refine (hput.out _).mono ?_; rintro e w1 ⟨rfl, hb1⟩; have hc1 : w1.cell? ⟨B, 1, none⟩ = some (.string t) := (hb1.cell (p := ⟨B, 1, none⟩) (by rw [← HB.out]; exact HS0.out)).trans hc0; have Hb1 := box hb1; clear hb1))
        clear e1 e2
        go_wp2_with fail
        go_roundw
        case rel => exact ⟨k + 1, _, hlt, by go_num, rfl, ⟨by rw [HT.out, HE.out, ← List.append_assoc, ← HA.out]; simp⟩, HB0.out.drew.trans (Hb1.out.mono (by have := Hsr.out; have := HS0.out; show _ ≤ W0.heap.size; omega)), by have := Hsr.out; have := HS0.out; have h3 : W0.heap.size ≤ w1.heap.size := Hb1.out.size; omega⟩
        case measure => simp [intOf]; omega
      | false =>
        have hp0 : Box (∀ w, Calls Try.prog 61 #[.int .u64 0] w fun e w' => e = .returned (.string { data := #[0] }) ∧ Below w.heap.size w w') := ⟨fun w => putNat_any 0 w (by omega)⟩
        go_wp2_with fail
        refine (hp0.out _).mono ?_
        rintro e w3 ⟨rfl, hb3⟩
        have HB3 : Box (Below w.heap.size w w3) := ⟨(HBr.out.alloc (Nat.le_of_lt Hsr.out) _).trans (hb3.mono (by have := Hsr.out; rw [World.size_alloc]; omega))⟩
        have Hs3 : Box (w.heap.size < w3.heap.size) := ⟨by have h3 := hb3.size; have := Hsr.out; rw [World.size_alloc] at h3; omega⟩
        clear hb3
        go_wp2_with fail
        go_roundw
        case rel => exact ⟨k + 1, _, hlt, by go_num, rfl, ⟨by rw [HT.out, ← List.append_assoc, ← HA.out, ByteArray.data_append, Array.toList_append]; rfl⟩, HB3.out, Hs3.out⟩
        case measure => simp [intOf]; omega
    · have HA2 : Box (A.data.toList = LeafM.text ls) := ⟨by rw [HA.out, List.take_of_length_le (by omega)]; rfl⟩
      go_wp2_with fail
      go_ret2
      refine ⟨?_, HBr.out⟩
      rw [LeafM.textV, HC.out, if_pos rfl, ← HA2.out]; rfl
end Go.Proofs.Ytnolidjjeknmmaa
