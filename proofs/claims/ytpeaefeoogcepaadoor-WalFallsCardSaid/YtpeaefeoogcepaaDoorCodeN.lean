/- code.PutNat: what it computes (a seat without GetNat needs no more). -/
import Derived.Test.YtpeaefeoogcepaaDoorHeap
import Derived.Test.YtpeaefeoogcepaaDoorCodeM
namespace Go.Proofs.YtpeaefeoogcepaaDoor
open Go.RowKit Go.Lib

theorem Tryd.infoByte : (Tryd.prog.info? 5).map (fun i => (i.zero, i.size, i.bytes)) = some (some (.int .u8 0), 1, 1) := by kernel_rfl

theorem CodeM.byte (m : Nat) : ((UInt8.ofNat m).toNat : Int) = (m : Int) % 256 := by
  simp [UInt8.toNat_ofNat']
theorem CodeM.orLow (m : Nat) : bits .or .u8 ((m : Int) % 256) 128 = ((UInt8.ofNat (m % 128 + 128)).toNat : Int) := by
  have h : ∀ x < 256, bits .or .u8 (x : Nat) 128 = ((x % 128 + 128 : Nat) : Int) := by decide +kernel
  have e : ((m : Int) % 256) = ((m % 256 : Nat) : Int) := by omega
  rw [e, h _ (Nat.mod_lt _ (by omega)), CodeM.byte]
  omega
/-- The relation of PutNat's loop: the bytes so far, and what is left of the number. -/
def CodeM.Rel (B : Nat) (n : Nat) (w : World) (t0 t3 : Value) (wr : World) : Prop :=
  ∃ (m k : Nat) (l : List UInt8), t0 = .int .u64 (m : Int) ∧ m < 128 ^ (k + 1) ∧ k ≤ 9 ∧ m < 18446744073709551616 ∧ l.length + k = 9 ∧ l ++ CodeM.putF k m = CodeM.putNat n ∧
    wr.ownsRow B 5 1 t3 l.length (byteVals l) ∧ Below B w wr

theorem CodeM.rel_next {B n : Nat} {w w1 : World} {m k : Nat} {l : List UInt8} {v' : Value} (hm : m < 128 ^ (k + 1)) (hk : k ≤ 9) (hm2 : m < 18446744073709551616) (hl : l.length + k = 9) (he : l ++ CodeM.putF k m = CodeM.putNat n)
    (hge : ¬ m < 128) (hown : w1.ownsRow B 5 1 v' (l.length + 1) (byteVals l ++ [.int .u8 ((UInt8.ofNat (m % 128 + 128)).toNat : Int)])) (hb : Below B w w1) :
    CodeM.Rel B n w (.int .u64 ((m : Int) / 128)) v' w1 := by
  cases k with
  | zero => simp at hm; omega
  | succ k =>
    refine ⟨m / 128, k, l ++ [UInt8.ofNat (m % 128 + 128)], by simp, ?_, by omega, by omega, by simp; omega, ?_, ?_, hb⟩
    · rw [Nat.pow_succ] at hm
      exact Nat.div_lt_of_lt_mul (by omega)
    · rw [← he, CodeM.putF_ge _ _ hge, List.append_assoc]; rfl
    · rw [byteVals_append, List.length_append]; exact hown

set_option maxHeartbeats 400000 in
theorem putNat_any (n : Nat) (w : World) (hn : n < 18446744073709551616) :
    Calls Tryd.prog 42 #[.int .u64 (n : Int)] w fun e w' => e = .returned (.string ⟨(CodeM.putNat n).toArray⟩) ∧ Below w.heap.size w w' := by
  obtain ⟨i0, hi, hz0, hz1, hz2⟩ := info_parts Tryd.infoByte
  obtain ⟨B, HB⟩ : ∃ B, Box (B = w.heap.size) := ⟨_, ⟨rfl⟩⟩
  have Hn := box hn; clear hn
  go_enter Tryd.func42, Tryd.ntmps42
  go_wp2
  go_loopw [0, 3] (fun t0 t3 wr => CodeM.Rel B n w t0 t3 wr) (fun t0 _ _ => (intOf t0).toNat)
  case atStart => exact ⟨n, 9, [], rfl, by have := Hn.out; omega, by omega, Hn.out, rfl, rfl, World.ownsRow_nil _ _ _ _, Below.refl _ _⟩
  case round =>
    obtain ⟨m, k, l, rfl, hm, hk, hm2, hl, he, hown, hb⟩ := hrel
    have hor := fun (k : Int) (h : k = 128) => (h ▸ CodeM.orLow m : bits .or .u8 ((m : Int) % 256) k = _)
    have hsz : B ≤ wr.heap.size := by rw [HB.out]; exact hb.size
    have hl9 : l.length ≤ 9 := by omega
    have Hm := box hm; have Hm2 := box hm2; have Hl := box hl; have He := box he
    clear hm hm2 hl he
    by_cases hlt : m < 128
    · have hd : decide ((128 : Int) ≤ (m : Int)) = false := by simp; omega
      go_wp2_with (at_builtin; refine wpList_append_own _ rfl _ _ 79 rfl B 5 i0 (.int .u8 0) 1 1 Tryd.underlying79 hi hz0 hz1 hz2 rfl (by decide) _ _ _ rfl (hown.alloc _) ⟨wr.heap.size, 0, none⟩ 1 1 [.int .u8 (m : Int)] rfl rfl (cell_one_new _ _ _) (by simp [Value.oneCell']) (by unfold maxLen; omega) (by omega) (by simp; omega) ?_)
      intro v' w1 hown1 hgrow _
      have hown2 : w1.ownsRow B 5 1 v' (l ++ [UInt8.ofNat m]).length (byteVals (l ++ [UInt8.ofNat m])) := by
        have e : ((UInt8.ofNat m).toNat : Int) = (m : Int) := by rw [CodeM.byte]; omega
        rw [byteVals_append, List.length_append, byteVals_one, e]; exact hown1
      have hcv := run_string_of_own (P := Tryd.prog) 79 9 hown2 Tryd.underlying79 Tryd.underlying5 Tryd.underlying9
      have hb1 : Below B w w1 := (hb.alloc hsz _).grown hgrow (by simp; omega) (fun k hk => (hown.lt k hk).1)
      have Hb1 := box hb1
      have hfin : l ++ [UInt8.ofNat m] = CodeM.putNat n := by rw [← He.out, CodeM.putF_lt _ _ hlt]
      have Hfin := box hfin
      clear hfin hown1 hgrow hown2 hown hb1 hb hor
      go_wp2
      go_ret
      exact ⟨by rw [← Hfin.out]; rfl, HB.out ▸ Hb1.out⟩
    · have hd : decide ((128 : Int) ≤ (m : Int)) = true := by simp; omega
      go_wp2_with (at_builtin; refine wpList_append_own _ rfl _ _ 79 rfl B 5 i0 (.int .u8 0) 1 1 Tryd.underlying79 hi hz0 hz1 hz2 rfl (by decide) _ _ _ rfl (hown.alloc _) ⟨wr.heap.size, 0, none⟩ 1 1 [.int .u8 ((UInt8.ofNat (m % 128 + 128)).toNat : Int)] rfl rfl (cell_one_new _ _ _) (by simp [Value.oneCell']) (by unfold maxLen; omega) (by omega) (by simp; omega) ?_)
      intro v' w1 hown1 hgrow _
      have hb1 : Below B w w1 := (hb.alloc hsz _).grown hgrow (by simp; omega) (fun k hk => (hown.lt k hk).1)
      have R := box (CodeM.rel_next Hm.out hk Hm2.out Hl.out He.out hlt hown1 hb1)
      clear hown1 hgrow hown hb1 hb hor
      go_wp2
      go_roundw
      case rel => exact R.out
      case measure => simp [intOf]; omega

def CodeM.tup (x : Nat × Nat × Int) : Value := .tuple #[.int .u64 (x.1 : Int), .int .i64 (x.2.1 : Int), .int .i64 x.2.2]

def CodeM.GRel (s : ByteArray) (t5 t10 : Value) : Prop :=
  ∃ (k a : Nat), t10 = .int .i64 (k : Int) ∧ t5 = .int .u64 (a : Int) ∧ k ≤ 9 ∧ k ≤ s.size ∧ a < 128 ^ k ∧ CodeM.getF k a (s.data.toList.drop k) = CodeM.getNat s.data.toList

theorem CodeM.pow (k : Nat) : (128 : Nat) ^ k = 2 ^ (7 * k) := by
  rw [show (128 : Nat) = 2 ^ 7 from rfl, ← Nat.pow_mul]
theorem CodeM.shlBound (b k : Nat) (hk : k ≤ 9) (h9 : k = 9 → b ≤ 1) : b % 128 * 2 ^ (7 * k) < 18446744073709551616 := by
  by_cases h : k = 9
  · subst h
    have : b % 128 ≤ 1 := by have := h9 rfl; omega
    have : b % 128 * 2 ^ (7 * 9) ≤ 1 * 2 ^ (7 * 9) := Nat.mul_le_mul_right _ this
    omega
  · have h1 : b % 128 < 2 ^ 7 := by omega
    have h2 : 2 ^ (7 * k) ≤ 2 ^ 56 := Nat.pow_le_pow_right (by omega) (by omega)
    have : b % 128 * 2 ^ (7 * k) ≤ 127 * 2 ^ 56 := Nat.mul_le_mul (by omega) h2
    omega
theorem CodeM.orStep (a b k : Nat) (ha : a < 128 ^ k) (hk : k ≤ 9) (hb : b < 256) (h9 : k = 9 → b ≤ 1) :
    bits .or .u64 (a : Int) (IntKind.u64.wrap (IntKind.u64.wrap (bits .and .u8 (b : Int) 127) * 2 ^ (7 * k))) = ((a + b % 128 * 128 ^ k : Nat) : Int) := by
  have e1 : bits .and .u8 (b : Int) 127 = ((b % 128 : Nat) : Int) := by
    rw [show (127 : Int) = ((127 : Nat) : Int) from rfl, u8_and_nat b 127 hb (by omega), nat_mask7]
  have hB := CodeM.shlBound b k hk h9
  have e2 : IntKind.u64.wrap (((b % 128 : Nat) : Int)) = ((b % 128 : Nat) : Int) := IntWalk.u64_in _ (by omega)
  have e3 : ((b % 128 : Nat) : Int) * 2 ^ (7 * k) = ((b % 128 * 2 ^ (7 * k) : Nat) : Int) := by
    rw [Int.natCast_mul, Int.natCast_pow]; rfl
  have e4 : IntKind.u64.wrap ((b % 128 * 2 ^ (7 * k) : Nat) : Int) = ((b % 128 * 2 ^ (7 * k) : Nat) : Int) := IntWalk.u64_in _ (by omega)
  have ha' : a < 2 ^ (7 * k) := by rw [← CodeM.pow]; exact ha
  have h63 : 2 ^ (7 * k) ≤ 2 ^ 63 := Nat.pow_le_pow_right (by omega) (by omega)
  rw [e1, e2, e3, e4, u64_or_nat _ _ (by omega) hB, Nat.or_comm, nat_join (7 * k) _ _ (Nat.mul_mod_left _ _) ha', CodeM.pow, Nat.add_comm]
theorem CodeM.acc_lt (a b k : Nat) (ha : a < 128 ^ k) : a + b % 128 * 128 ^ k < 128 ^ (k + 1) := by
  rw [Nat.pow_succ]
  have h : b % 128 ≤ 127 := by omega
  have : b % 128 * 128 ^ k ≤ 127 * 128 ^ k := Nat.mul_le_mul_right _ h
  omega

theorem CodeM.getF_end (s : ByteArray) (k a : Nat) (h : ¬ k < s.size) (hg : CodeM.getF k a (s.data.toList.drop k) = CodeM.getNat s.data.toList) : CodeM.getNat s.data.toList = (0, 0, 3) := by
  rw [← hg, List.drop_of_length_le (by rw [Array.length_toList]; exact Nat.le_of_not_lt h)]; rfl
theorem CodeM.getF_at (s : ByteArray) (k a : Nat) (h : k < s.size) (hg : CodeM.getF k a (s.data.toList.drop k) = CodeM.getNat s.data.toList) :
    CodeM.getNat s.data.toList = CodeM.getF k a (s[k] :: s.data.toList.drop (k + 1)) := by
  rw [← hg, List.drop_eq_getElem_cons (by rw [Array.length_toList]; exact h)]; rfl

theorem CodeM.mk_size (l : List UInt8) : (ByteArray.mk l.toArray).size = l.length := rfl
theorem CodeM.mk_append (l : List UInt8) (s : ByteArray) : ByteArray.mk l.toArray ++ s = ⟨(l ++ s.data.toList).toArray⟩ := by
  apply ByteArray.ext
  simp

end Go.Proofs.YtpeaefeoogcepaaDoor
