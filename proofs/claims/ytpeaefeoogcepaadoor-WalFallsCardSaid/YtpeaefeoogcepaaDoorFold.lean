/- fold.Sum and fold.Join: what they compute. -/
import Derived.Test.YtpeaefeoogcepaaDoorRows
import Derived.WalkKit
import Derived.WalkSpells
import Derived.WalkLawsBesides
import Derived.Lib.Hide
namespace Go.Proofs.YtpeaefeoogcepaaDoor
open Go.RowKit Go.Lib

def FoldSum.step (p : Nat × Nat) (c : UInt8) : Nat × Nat :=
  ((p.1 + c.toNat) % 65521, (p.2 + (p.1 + c.toNat) % 65521) % 65521)
def FoldSum.ab (l : List UInt8) : Nat × Nat := l.foldl FoldSum.step (1, 0)
def FoldSum.sum (l : List UInt8) : Int := ((FoldSum.ab l).2 : Int) * 65536 + ((FoldSum.ab l).1 : Int)

theorem FoldSum.ab_snoc (l : List UInt8) (c : UInt8) : FoldSum.ab (l ++ [c]) = FoldSum.step (FoldSum.ab l) c := by
  simp [FoldSum.ab, List.foldl_append]
theorem FoldSum.ab_lt (l : List UInt8) : (FoldSum.ab l).1 < 65521 ∧ (FoldSum.ab l).2 < 65521 := by
  rcases List.eq_nil_or_concat l with rfl | ⟨l', c, rfl⟩
  · simp [FoldSum.ab]
  · rw [List.concat_eq_append, FoldSum.ab_snoc]; unfold FoldSum.step; constructor <;> (simp only []; omega)

theorem FoldSum.take_snoc (s : ByteArray) (k : Nat) (h : k < s.size) : s.data.toList.take (k + 1) = s.data.toList.take k ++ [s[k]] := by
  rw [List.take_succ_eq_append_getElem (by simpa using h)]; rfl

set_option maxHeartbeats 400000 in
theorem sum_any (s : ByteArray) (w : World) (hs : s.size ≤ maxLen) :
    Calls Tryd.prog 43 #[.string s] w fun e w' => e = .returned (.int .u32 (FoldSum.sum s.data.toList)) ∧ w = w' := by
  unfold maxLen at hs
  go_enter Tryd.func43, Tryd.ntmps43
  go_wp2
  go_loop [3, 4, 8] (fun a b i => ∃ k : Nat, k ≤ s.size ∧ i = .int .i64 k ∧ a = .int .u32 (FoldSum.ab (s.data.toList.take k)).1 ∧ b = .int .u32 (FoldSum.ab (s.data.toList.take k)).2) (fun _ _ i => s.size - (intOf i).toNat)
  case atStart => exact ⟨0, Nat.zero_le _, rfl, rfl, rfl⟩
  case round =>
    obtain ⟨k, hk, rfl, rfl, rfl⟩ := hrel
    have hlt := FoldSum.ab_lt (s.data.toList.take k)
    generalize hp : FoldSum.ab (s.data.toList.take k) = p at *
    have Hp := Lib.hid hp; clear hp
    obtain ⟨p1, p2⟩ := p
    simp only at hlt
    obtain ⟨h1, h2⟩ := hlt
    by_cases hlt : k < s.size
    · have hb : s[k].toNat < 256 := s[k].toNat_lt
      go_wp2
      go_round
      case rel =>
        refine ⟨k + 1, by omega, by go_num, ?_, ?_⟩ <;>
          (rw [FoldSum.take_snoc s k hlt, FoldSum.ab_snoc, Hp.out]; simp only [FoldSum.step]; go_num)
      case measure => simp [intOf]; omega
    · have hbits : bits .or .u32 ((p2 : Int) * 65536) (p1 : Int) = (p2 : Int) * 65536 + (p1 : Int) := by
        rw [u32_or _ _ (by omega) (by omega) (by omega) (by omega), nat_join 16 _ _ (by omega) (by omega)]; omega
      go_wp2
      go_ret
      refine ⟨?_, rfl⟩
      have hk' : k = s.size := by omega
      have e : List.take k s.data.toList = s.data.toList := List.take_of_length_le (by simp [hk'])
      have hp := Hp.out
      rw [e] at hp
      rw [FoldSum.sum, hp]; rfl

theorem FoldSum.lo (a b : Nat) (ha : a < 65521) (hb : b < 65521) : bits .and .u32 ((b : Int) * 65536 + (a : Int)) 65535 = (a : Int) := by
  rw [u32_and _ _ (by omega) (by omega) (by omega) (by omega)]
  have : ((b : Int) * 65536 + (a : Int)).toNat = b * 65536 + a := by omega
  rw [this, show (65535 : Int).toNat = 2 ^ 16 - 1 from rfl, Nat.and_two_pow_sub_one_eq_mod]; omega
theorem FoldSum.hi (a b : Nat) (ha : a < 65521) : ((b : Int) * 65536 + (a : Int)) / 65536 = (b : Int) := by omega

theorem FoldSum.mulBound (f n : Nat) (hf : f < 65521) (hn : n ≤ 4096) : (0 : Int) ≤ (f : Int) * (n : Int) ∧ (f : Int) * (n : Int) ≤ 268374016 := by
  have : f * n ≤ 65521 * 4096 := Nat.mul_le_mul (by omega) hn
  rw [← Int.natCast_mul]; omega

/-- Join of two sums, the second of a text of n bytes, as FoldSum.join says. -/
def FoldSum.joinA (a1 a2 : Nat) : Nat := (a1 + a2 + 65520) % 65521
def FoldSum.joinB (a1 b1 b2 n : Nat) : Nat := (b1 + b2 + (a1 + 65520) * n) % 65521
theorem FoldSum.run (l : List UInt8) : ∀ (a b : Nat), a < 65521 → b < 65521 → l.foldl FoldSum.step (a, b) = (FoldSum.joinA a (FoldSum.ab l).1, FoldSum.joinB a b (FoldSum.ab l).2 l.length) := by
  intro a b ha hb
  have key : ∀ n (l : List UInt8), l.length = n → l.foldl FoldSum.step (a, b) = (FoldSum.joinA a (FoldSum.ab l).1, FoldSum.joinB a b (FoldSum.ab l).2 l.length) := by
    intro n
    induction n with
    | zero =>
      intro l hl
      obtain rfl := List.eq_nil_of_length_eq_zero hl
      simp only [List.foldl_nil, FoldSum.ab, FoldSum.joinA, FoldSum.joinB, List.length_nil, Nat.mul_zero]
      rw [Prod.mk.injEq]; omega
    | succ n ih =>
      intro l hl
      rcases List.eq_nil_or_concat l with rfl | ⟨l', c, rfl⟩
      · simp at hl
      · rw [List.concat_eq_append] at hl ⊢
        have hl' : l'.length = n := by simpa using hl
        rw [List.foldl_append, ih l' hl', FoldSum.ab_snoc, List.length_append]
        generalize FoldSum.ab l' = p
        obtain ⟨a2, b2⟩ := p
        simp only [List.foldl_cons, List.foldl_nil, FoldSum.step, FoldSum.joinA, FoldSum.joinB, List.length_cons, List.length_nil, hl', Nat.zero_add, Nat.mul_add, Nat.mul_one]
        generalize (a + 65520) * n = m
        rw [Prod.mk.injEq]; omega
  exact key _ l rfl

theorem FoldSum.bits_sum (a b : Nat) (ha : a < 65521) (hb : b < 65521) : bits .or .u32 ((b : Int) * 65536) (a : Int) = (b : Int) * 65536 + (a : Int) := by
  rw [u32_or _ _ (by omega) (by omega) (by omega) (by omega), nat_join 16 _ _ (by omega) (by omega)]; omega

theorem FoldSum.append (s t : List UInt8) : FoldSum.sum (s ++ t) = (FoldSum.joinB (FoldSum.ab s).1 (FoldSum.ab s).2 (FoldSum.ab t).2 t.length : Nat) * 65536 + (FoldSum.joinA (FoldSum.ab s).1 (FoldSum.ab t).1 : Nat) := by
  have h := FoldSum.ab_lt s
  have e : FoldSum.ab (s ++ t) = t.foldl FoldSum.step ((FoldSum.ab s).1, (FoldSum.ab s).2) := by simp [FoldSum.ab]
  rw [FoldSum.sum, e, FoldSum.run t _ _ h.1 h.2]

theorem FoldSum.modEq (a b c n P : Nat) : (((b + c + a * n) % P : Nat) : Int) = ((b : Int) + (c : Int) + ((a % P : Nat) : Int) * (n : Int)) % (P : Int) := by
  rw [← Int.natCast_mul, ← Int.natCast_add, ← Int.natCast_add, ← Int.natCast_emod, Nat.add_mod (b + c) (a * n) P, Nat.add_mod (b + c) (a % P * n) P, Nat.mod_mul_mod]

end Go.Proofs.YtpeaefeoogcepaaDoor
