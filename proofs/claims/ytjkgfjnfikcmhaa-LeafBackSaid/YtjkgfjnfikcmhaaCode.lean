/- code.PutNat, GetNat, PutInt, GetInt, PutText, GetText: what they compute. -/
import Derived.Test.YtjkgfjnfikcmhaaMem
import Derived.Test.YtjkgfjnfikcmhaaCodeM
namespace Go.Proofs.Ytjkgfjnfikcmhaa
open Go.RowKit Go.Lib

theorem Try.infoByte : (Try.prog.info? 5).map (fun i => (i.zero, i.size, i.bytes)) = some (some (.int .u8 0), 1, 1) := by kernel_rfl

theorem CodeM.byte (m : Nat) : ((UInt8.ofNat m).toNat : Int) = (m : Int) % 256 := by
  simp [UInt8.toNat_ofNat']
theorem CodeM.orLow (m : Nat) : bits .or .u8 ((m : Int) % 256) 128 = ((UInt8.ofNat (m % 128 + 128)).toNat : Int) := by
  have h : ∀ x < 256, bits .or .u8 (x : Nat) 128 = ((x % 128 + 128 : Nat) : Int) := by decide +kernel
  have e : ((m : Int) % 256) = ((m % 256 : Nat) : Int) := by omega
  rw [e, h _ (Nat.mod_lt _ (by omega)), CodeM.byte]
  omega
/-- The relation of PutNat's loop: the bytes so far, and what is left of the number. -/
def CodeM.Rel (B : Nat) (n : Nat) (w : World) (t0 t3 : Value) (wr : World) : Prop :=
  ∃ (m k : Nat) (l : List UInt8), t0 = .int .u64 (m : Int) ∧ m < 128 ^ (k + 1) ∧ k ≤ 9 ∧ m < 18446744073709551616 ∧ l.length + k = 9 ∧ l ++ CodeM.putF k m = CodeM.putNat n ∧
    wr.ownsRow B 5 1 t3 l.length (byteVals l) ∧ Below B w wr

theorem CodeM.rel_next {B n : Nat} {w w1 : World} {m k : Nat} {l : List UInt8} {v' : Value} (hm : m < 128 ^ (k + 1)) (hk : k ≤ 9) (hm2 : m < 18446744073709551616) (hl : l.length + k = 9) (he : l ++ CodeM.putF k m = CodeM.putNat n)
    (hge : ¬ m < 128) (hown : w1.ownsRow B 5 1 v' (l.length + 1) (byteVals l ++ [.int .u8 ((UInt8.ofNat (m % 128 + 128)).toNat : Int)])) (hb : Below B w w1) :
    CodeM.Rel B n w (.int .u64 ((m : Int) / 128)) v' w1 := by
  cases k with
  | zero => simp at hm; omega
  | succ k =>
    refine ⟨m / 128, k, l ++ [UInt8.ofNat (m % 128 + 128)], by simp, ?_, by omega, by omega, by simp; omega, ?_, ?_, hb⟩
    · rw [Nat.pow_succ] at hm
      exact Nat.div_lt_of_lt_mul (by omega)
    · rw [← he, CodeM.putF_ge _ _ hge, List.append_assoc]; rfl
    · rw [byteVals_append, List.length_append]; exact hown

set_option maxHeartbeats 400000 in
theorem putNat_any (n : Nat) (w : World) (hn : n < 18446744073709551616) :
    Calls Try.prog 19 #[.int .u64 (n : Int)] w fun e w' => e = .returned (.string ⟨(CodeM.putNat n).toArray⟩) ∧ Below w.heap.size w w' := by
  obtain ⟨i0, hi, hz0, hz1, hz2⟩ := info_parts Try.infoByte
  obtain ⟨B, HB⟩ : ∃ B, Box (B = w.heap.size) := ⟨_, ⟨rfl⟩⟩
  have Hn := box hn; clear hn
  go_enter Try.func19, Try.ntmps19
  go_wp2
  go_loopw [0, 3] (fun t0 t3 wr => CodeM.Rel B n w t0 t3 wr) (fun t0 _ _ => (intOf t0).toNat)
  case atStart => exact ⟨n, 9, [], rfl, by have := Hn.out; omega, by omega, Hn.out, rfl, rfl, World.ownsRow_nil _ _ _ _, Below.refl _ _⟩
  case round =>
    obtain ⟨m, k, l, rfl, hm, hk, hm2, hl, he, hown, hb⟩ := hrel
    have hor := fun (k : Int) (h : k = 128) => (h ▸ CodeM.orLow m : bits .or .u8 ((m : Int) % 256) k = _)
    have hsz : B ≤ wr.heap.size := by rw [HB.out]; exact hb.size
    have hl9 : l.length ≤ 9 := by omega
    have Hm := box hm; have Hm2 := box hm2; have Hl := box hl; have He := box he
    clear hm hm2 hl he
    by_cases hlt : m < 128
    · have hd : decide ((128 : Int) ≤ (m : Int)) = false := by simp; omega
      go_wp2_with (at_builtin; refine wpList_append_own _ rfl _ _ 30 rfl B 5 i0 (.int .u8 0) 1 1 Try.underlying30 hi hz0 hz1 hz2 rfl (by decide) _ _ _ rfl (hown.alloc _) ⟨wr.heap.size, 0, none⟩ 1 1 [.int .u8 (m : Int)] rfl rfl (cell_one_new _ _ _) (by simp [Value.oneCell']) (by unfold maxLen; omega) (by omega) (by simp; omega) ?_)
      intro v' w1 hown1 hgrow _
      have hown2 : w1.ownsRow B 5 1 v' (l ++ [UInt8.ofNat m]).length (byteVals (l ++ [UInt8.ofNat m])) := by
        have e : ((UInt8.ofNat m).toNat : Int) = (m : Int) := by rw [CodeM.byte]; omega
        rw [byteVals_append, List.length_append, byteVals_one, e]; exact hown1
      have hcv := run_string_of_own (P := Try.prog) 30 9 hown2 Try.underlying30 Try.underlying5 Try.underlying9
      have hb1 : Below B w w1 := (hb.alloc hsz _).grown hgrow (by simp; omega) (fun k hk => (hown.lt k hk).1)
      have Hb1 := box hb1
      have hfin : l ++ [UInt8.ofNat m] = CodeM.putNat n := by rw [← He.out, CodeM.putF_lt _ _ hlt]
      have Hfin := box hfin
      clear hfin hown1 hgrow hown2 hown hb1 hb hor
      go_wp2
      go_ret
      exact ⟨by rw [← Hfin.out]; rfl, HB.out ▸ Hb1.out⟩
    · have hd : decide ((128 : Int) ≤ (m : Int)) = true := by simp; omega
      go_wp2_with (at_builtin; refine wpList_append_own _ rfl _ _ 30 rfl B 5 i0 (.int .u8 0) 1 1 Try.underlying30 hi hz0 hz1 hz2 rfl (by decide) _ _ _ rfl (hown.alloc _) ⟨wr.heap.size, 0, none⟩ 1 1 [.int .u8 ((UInt8.ofNat (m % 128 + 128)).toNat : Int)] rfl rfl (cell_one_new _ _ _) (by simp [Value.oneCell']) (by unfold maxLen; omega) (by omega) (by simp; omega) ?_)
      intro v' w1 hown1 hgrow _
      have hb1 : Below B w w1 := (hb.alloc hsz _).grown hgrow (by simp; omega) (fun k hk => (hown.lt k hk).1)
      have R := box (CodeM.rel_next Hm.out hk Hm2.out Hl.out He.out hlt hown1 hb1)
      clear hown1 hgrow hown hb1 hb hor
      go_wp2
      go_roundw
      case rel => exact R.out
      case measure => simp [intOf]; omega

def CodeM.tup (x : Nat × Nat × Int) : Value := .tuple #[.int .u64 (x.1 : Int), .int .i64 (x.2.1 : Int), .int .i64 x.2.2]

def CodeM.GRel (s : ByteArray) (t5 t10 : Value) : Prop :=
  ∃ (k a : Nat), t10 = .int .i64 (k : Int) ∧ t5 = .int .u64 (a : Int) ∧ k ≤ 9 ∧ k ≤ s.size ∧ a < 128 ^ k ∧ CodeM.getF k a (s.data.toList.drop k) = CodeM.getNat s.data.toList

theorem CodeM.pow (k : Nat) : (128 : Nat) ^ k = 2 ^ (7 * k) := by
  rw [show (128 : Nat) = 2 ^ 7 from rfl, ← Nat.pow_mul]
theorem CodeM.shlBound (b k : Nat) (hk : k ≤ 9) (h9 : k = 9 → b ≤ 1) : b % 128 * 2 ^ (7 * k) < 18446744073709551616 := by
  by_cases h : k = 9
  · subst h
    have : b % 128 ≤ 1 := by have := h9 rfl; omega
    have : b % 128 * 2 ^ (7 * 9) ≤ 1 * 2 ^ (7 * 9) := Nat.mul_le_mul_right _ this
    omega
  · have h1 : b % 128 < 2 ^ 7 := by omega
    have h2 : 2 ^ (7 * k) ≤ 2 ^ 56 := Nat.pow_le_pow_right (by omega) (by omega)
    have : b % 128 * 2 ^ (7 * k) ≤ 127 * 2 ^ 56 := Nat.mul_le_mul (by omega) h2
    omega
theorem CodeM.orStep (a b k : Nat) (ha : a < 128 ^ k) (hk : k ≤ 9) (hb : b < 256) (h9 : k = 9 → b ≤ 1) :
    bits .or .u64 (a : Int) (IntKind.u64.wrap (IntKind.u64.wrap (bits .and .u8 (b : Int) 127) * 2 ^ (7 * k))) = ((a + b % 128 * 128 ^ k : Nat) : Int) := by
  have e1 : bits .and .u8 (b : Int) 127 = ((b % 128 : Nat) : Int) := by
    rw [show (127 : Int) = ((127 : Nat) : Int) from rfl, u8_and_nat b 127 hb (by omega), nat_mask7]
  have hB := CodeM.shlBound b k hk h9
  have e2 : IntKind.u64.wrap (((b % 128 : Nat) : Int)) = ((b % 128 : Nat) : Int) := IntWalk.u64_in _ (by omega)
  have e3 : ((b % 128 : Nat) : Int) * 2 ^ (7 * k) = ((b % 128 * 2 ^ (7 * k) : Nat) : Int) := by
    rw [Int.natCast_mul, Int.natCast_pow]; rfl
  have e4 : IntKind.u64.wrap ((b % 128 * 2 ^ (7 * k) : Nat) : Int) = ((b % 128 * 2 ^ (7 * k) : Nat) : Int) := IntWalk.u64_in _ (by omega)
  have ha' : a < 2 ^ (7 * k) := by rw [← CodeM.pow]; exact ha
  have h63 : 2 ^ (7 * k) ≤ 2 ^ 63 := Nat.pow_le_pow_right (by omega) (by omega)
  rw [e1, e2, e3, e4, u64_or_nat _ _ (by omega) hB, Nat.or_comm, nat_join (7 * k) _ _ (Nat.mul_mod_left _ _) ha', CodeM.pow, Nat.add_comm]
theorem CodeM.acc_lt (a b k : Nat) (ha : a < 128 ^ k) : a + b % 128 * 128 ^ k < 128 ^ (k + 1) := by
  rw [Nat.pow_succ]
  have h : b % 128 ≤ 127 := by omega
  have : b % 128 * 128 ^ k ≤ 127 * 128 ^ k := Nat.mul_le_mul_right _ h
  omega

theorem CodeM.getF_end (s : ByteArray) (k a : Nat) (h : ¬ k < s.size) (hg : CodeM.getF k a (s.data.toList.drop k) = CodeM.getNat s.data.toList) : CodeM.getNat s.data.toList = (0, 0, 3) := by
  rw [← hg, List.drop_of_length_le (by rw [Array.length_toList]; exact Nat.le_of_not_lt h)]; rfl
theorem CodeM.getF_at (s : ByteArray) (k a : Nat) (h : k < s.size) (hg : CodeM.getF k a (s.data.toList.drop k) = CodeM.getNat s.data.toList) :
    CodeM.getNat s.data.toList = CodeM.getF k a (s[k] :: s.data.toList.drop (k + 1)) := by
  rw [← hg, List.drop_eq_getElem_cons (by rw [Array.length_toList]; exact h)]; rfl

set_option maxHeartbeats 2000000 in
theorem getNat_any (s : ByteArray) (w : World) (hs : s.size ≤ 9223372036854775807) :
    Calls Try.prog 18 #[.string s] w fun e w' => e = .returned (CodeM.tup (CodeM.getNat s.data.toList)) ∧ w = w' := by
  go_enter Try.func18, Try.ntmps18
  go_wp2
  go_loop [5, 10] (fun t5 t10 => CodeM.GRel s t5 t10) (fun _ t10 => s.size - (intOf t10).toNat)
  case atStart => exact ⟨0, 0, rfl, rfl, by omega, by omega, by simp, rfl⟩
  case round =>
    obtain ⟨k, a, rfl, rfl, hk9, hks, ha, hg⟩ := hrel
    have Hg := box hg; have Ha := box ha
    clear hg ha
    by_cases hlt : k < s.size
    case neg =>
      go_wp2
      go_ret3
      exact ⟨by rw [CodeM.getF_end s k a hlt Hg.out]; rfl, rfl⟩
    have hb := s[k].toNat_lt
    have Hat := box (CodeM.getF_at s k a hlt Hg.out)
    by_cases h1 : k = 9
    · have g1 : ((k : Int) == 9) = true := by simp; omega
      have H1 := box h1
      clear h1
      have g0 : decide (0 < k) = true := by have := H1.out; simp; omega
      by_cases h2 : 1 < s[k].toNat
      · have g2 : decide (1 < (s[k].toNat : Int)) = true := by simp; omega
        clear hb
        go_wp2
        go_ret3
        exact ⟨by rw [Hat.out, CodeM.getF, if_pos ⟨H1.out, h2⟩]; rfl, rfl⟩
      · have g2 : decide (1 < (s[k].toNat : Int)) = false := by simp; omega
        have g3 : decide ((s[k].toNat : Int) < 128) = true := by simp; omega
        have hor := box (CodeM.orStep a s[k].toNat k Ha.out hk9 (by omega) (fun _ => by omega))
        have Hb := box hb
        clear hb
        by_cases h3 : s[k].toNat = 0
        · have g4 : ((s[k].toNat : Int) == 0) = true := by simp; omega
          have H3 := box h3; have H2 := box h2
          clear h3 h2
          go_wp2
          go_ret3
          exact ⟨by rw [Hat.out, CodeM.getF, if_neg (fun h => H2.out h.2), if_pos (show s[k].toNat < 128 by have := H3.out; omega), if_pos ⟨H3.out, by have := H1.out; omega⟩]; rfl, rfl⟩
        · have g4 : ((s[k].toNat : Int) == 0) = false := by simp; omega
          have H3 := box h3; have H2 := box h2
          clear h3 h2
          go_wp2
          go_ret3
          refine ⟨?_, rfl⟩
          rw [Hat.out, CodeM.getF, if_neg (fun h => H2.out h.2), if_pos (show s[k].toNat < 128 by have := H2.out; omega), if_neg (fun h => H3.out h.1)]
          have := hor.out
          rw [Nat.mod_eq_of_lt (by have := H2.out; omega)] at this
          exact congrArg (fun x => Ending.returned (Value.tuple #[.int .u64 x, .int .i64 ((k : Int) + 1), .int .i64 0])) this
    have g1 : ((k : Int) == 9) = false := by simp; omega
    have hor := box (CodeM.orStep a s[k].toNat k Ha.out hk9 (by omega) (fun h => absurd h h1))
    have Hb := box hb
    clear hb
    have H1 := box h1
    by_cases h2 : s[k].toNat < 128
    · have g3 : decide ((s[k].toNat : Int) < 128) = true := by simp; omega
      have H2 := box h2
      clear h2
      by_cases h3 : s[k].toNat = 0
      · have g4 : ((s[k].toNat : Int) == 0) = true := by simp; omega
        have H3 := box h3
        clear h3
        by_cases h4 : 0 < k
        · have g0 : decide (0 < k) = true := by simp; omega
          go_wp2
          go_ret3
          exact ⟨by rw [Hat.out, CodeM.getF, if_neg (fun h => H1.out h.1), if_pos H2.out, if_pos ⟨H3.out, h4⟩]; rfl, rfl⟩
        · have g0 : decide (0 < k) = false := by simp; omega
          have H4 := box h4
          clear h4
          go_wp2
          go_ret3
          refine ⟨?_, rfl⟩
          rw [Hat.out, CodeM.getF, if_neg (fun h => H1.out h.1), if_pos H2.out, if_neg (fun h => H4.out h.2)]
          have := hor.out
          rw [Nat.mod_eq_of_lt H2.out] at this
          exact congrArg (fun x => Ending.returned (Value.tuple #[.int .u64 x, .int .i64 ((k : Int) + 1), .int .i64 0])) this
      · have g4 : ((s[k].toNat : Int) == 0) = false := by simp; omega
        have H3 := box h3
        clear h3
        go_wp2
        go_ret3
        refine ⟨?_, rfl⟩
        rw [Hat.out, CodeM.getF, if_neg (fun h => H1.out h.1), if_pos H2.out, if_neg (fun h => H3.out h.1)]
        have := hor.out
        rw [Nat.mod_eq_of_lt H2.out] at this
        exact congrArg (fun x => Ending.returned (Value.tuple #[.int .u64 x, .int .i64 ((k : Int) + 1), .int .i64 0])) this
    · have g2 : decide ((s[k].toNat : Int) < 128) = false := by simp; omega
      have H2 := box h2
      clear h2
      go_wp2
      go_round
      case rel =>
        rw [hor.out]
        refine ⟨k + 1, _, by go_num, rfl, by have := H1.out; omega, hlt, CodeM.acc_lt _ _ _ Ha.out, ?_⟩
        rw [Hat.out, CodeM.getF, if_neg (fun h => H1.out h.1), if_neg H2.out]
      case measure => simp [intOf]; omega

theorem CodeM.mk_size (l : List UInt8) : (ByteArray.mk l.toArray).size = l.length := rfl
theorem CodeM.mk_append (l : List UInt8) (s : ByteArray) : ByteArray.mk l.toArray ++ s = ⟨(l ++ s.data.toList).toArray⟩ := by
  apply ByteArray.ext
  simp

set_option maxHeartbeats 400000 in
theorem putText_large (s : ByteArray) (w : World) (h : 4096 < s.size) :
    Calls Try.prog 21 #[.string s] w fun e w' => e = .returned (.tuple #[.string { data := #[] }, .int .i64 2]) ∧ w = w' := by
  have hd : decide ((4096 : Int) < (s.size : Int)) = true := by simp; omega
  have H := box h
  clear h
  go_enter Try.func21, Try.ntmps21
  go_wp2
  go_ret2
  exact ⟨rfl, rfl⟩

set_option maxHeartbeats 400000 in
theorem putText_any (s : ByteArray) (w : World) (h : s.size ≤ 4096) :
    Calls Try.prog 21 #[.string s] w fun e w' => e = .returned (.tuple #[.string ⟨(CodeM.putText s.data.toList).toArray⟩, .int .i64 0]) ∧ Below w.heap.size w w' := by
  have hd : decide ((4096 : Int) < (s.size : Int)) = false := by simp; omega
  have hl := (CodeM.put_len s.size).2
  have happ := fun (l : List UInt8) (hl : l.length ≤ 10) (w : World) => run_string_add_sum (P := Try.prog) (w := w) ⟨l.toArray⟩ s
  go_enter Try.func21, Try.ntmps21
  go_wp2_with fail
  refine (putNat_any s.size _ (by omega)).mono ?_
  rintro e w' ⟨rfl, hb⟩
  have hsz := CodeM.mk_size (CodeM.putNat s.size)
  generalize hx : CodeM.putNat s.size = x at *
  have Hx := box hx
  have Hb := box hb
  clear hx hb
  go_wp2_with fail
  go_ret2
  refine ⟨?_, Hb.out⟩
  have hcat : ByteArray.mk x.toArray ++ s = ⟨(CodeM.putText s.data.toList).toArray⟩ := by
    rw [CodeM.mk_append, CodeM.putText, ← Hx.out]
    rfl
  exact congrArg (fun x => Ending.returned (.tuple #[.string x, .int .i64 0])) hcat

theorem CodeM.getF_err : ∀ (l : List UInt8) (i a : Nat), (CodeM.getF i a l).2.2 = 0 ∨ ((CodeM.getF i a l).1 = 0 ∧ (CodeM.getF i a l).2.1 = 0 ∧ 0 ≤ (CodeM.getF i a l).2.2 ∧ (CodeM.getF i a l).2.2 ≤ 4) := by
  intro l
  induction l with
  | nil => intro i a; simp [CodeM.getF]
  | cons b r ih =>
    intro i a
    simp only [CodeM.getF]
    split
    · simp
    · split
      · split <;> simp
      · exact ih _ _

theorem CodeM.extract_eq (s : ByteArray) (k n : Nat) : s.extract k (k + n) = ⟨((s.data.toList.drop k).take n).toArray⟩ := by
  obtain ⟨⟨l⟩⟩ := s
  rw [ByteArray.extract_mk]
  simp

def CodeM.tupT (x : List UInt8 × Nat × Int) : Value := .tuple #[.string ⟨x.1.toArray⟩, .int .i64 (x.2.1 : Int), .int .i64 x.2.2]

set_option maxHeartbeats 1000000 in
theorem getText_any (s : ByteArray) (w : World) (hs : s.size ≤ 9223372036854775807) :
    Calls Try.prog 20 #[.string s] w fun e w' => e = .returned (CodeM.tupT (CodeM.getText s.data.toList)) ∧ w = w' := by
  generalize hx : CodeM.getNat s.data.toList = x
  obtain ⟨n, k, e⟩ := x
  have hlen : s.data.toList.length = s.size := rfl
  by_cases he : e = 0
  · subst he
    obtain ⟨h1, h2, h3, h4⟩ := CodeM.get_ok hx
    rw [hlen] at h2
    have Hx := box hx
    have H3 := box h3
    clear hx h3 h4
    by_cases hn : n ≤ 4096
    · have g1 : decide ((4096 : Int) < (n : Int)) = false := by simp; omega
      by_cases hsh : s.size - k < n
      · have g2 : decide (((s.size : Int) - (k : Int)) < (n : Int)) = true := by simp; omega
        have Hres : Box (CodeM.getText s.data.toList = ([], 0, 3)) := ⟨by
          unfold CodeM.getText
          rw [Hx.out]
          simp only
          rw [if_neg (by omega), if_neg (by omega), if_pos (by rw [hlen]; omega)]⟩
        have Hn := box hn; have Hsh := box hsh
        clear hn hsh
        go_enter Try.func20, Try.ntmps20
        go_wp2_with fail
        refine (getNat_any s _ hs).mono ?_
        rintro e w' ⟨rfl, rfl⟩
        rw [Hx.out]
        unfold CodeM.tup
        go_wp2_with fail
        go_ret3
        exact ⟨by rw [Hres.out]; rfl, rfl⟩
      · have g2 : decide (((s.size : Int) - (k : Int)) < (n : Int)) = false := by simp; omega
        have Hres : Box (CodeM.getText s.data.toList = ((s.data.toList.drop k).take n, k + n, 0)) := ⟨by
          unfold CodeM.getText
          rw [Hx.out]
          simp only
          rw [if_neg (by omega), if_neg (by omega), if_neg (by rw [hlen]; omega)]⟩
        have hkn : k + n ≤ s.size := by omega
        have Hsh := box hsh
        have Hn : Box (n ≤ 4096) := box hn
        clear hsh hn
        go_enter Try.func20, Try.ntmps20
        go_wp2_with fail
        refine (getNat_any s _ hs).mono ?_
        rintro e w' ⟨rfl, rfl⟩
        rw [Hx.out]
        unfold CodeM.tup
        go_wp2_with fail
        go_ret3
        refine ⟨?_, rfl⟩
        rw [Hres.out]
        have hcat : s.extract k (k + n) = ⟨((s.data.toList.drop k).take n).toArray⟩ := CodeM.extract_eq s k n
        exact congrArg (fun x => Ending.returned (.tuple #[.string x, .int .i64 ((k : Int) + (n : Int)), .int .i64 0])) hcat
    · have g1 : decide ((4096 : Int) < (n : Int)) = true := by simp; omega
      have Hres : Box (CodeM.getText s.data.toList = ([], 0, 2)) := ⟨by
        unfold CodeM.getText
        rw [Hx.out]
        simp only
        rw [if_neg (by omega), if_pos (by omega)]⟩
      have Hn := box hn
      clear hn
      go_enter Try.func20, Try.ntmps20
      go_wp2_with fail
      refine (getNat_any s _ hs).mono ?_
      rintro e w' ⟨rfl, rfl⟩
      rw [Hx.out]
      unfold CodeM.tup
      go_wp2_with fail
      go_ret3
      exact ⟨by rw [Hres.out]; rfl, rfl⟩
  · have g1 : (e == 0) = false := by simp [he]
    have g2 : (e != 0) = true := by simp [he]
    have Hx := box hx
    have He := box he
    have Hres : Box (CodeM.getText s.data.toList = ([], 0, e)) := ⟨by
      unfold CodeM.getText
      rw [hx]
      simp only
      rw [if_pos he]⟩
    clear hx he
    go_enter Try.func20, Try.ntmps20
    go_wp2_with fail
    refine (getNat_any s _ hs).mono ?_
    rintro e w' ⟨rfl, rfl⟩
    rw [Hx.out]
    unfold CodeM.tup
    go_wp2_with fail
    go_ret3
    exact ⟨by rw [Hres.out]; rfl, rfl⟩

theorem CodeM.u64_not (a : Nat) (ha : a < 18446744073709551616) : bits .xor .u64 IntKind.u64.max (a : Int) = ((18446744073709551615 - a : Nat) : Int) := by
  show IntKind.u64.wrap ((BitVec.ofInt 64 IntKind.u64.max ^^^ BitVec.ofInt 64 (a : Int)).toNat : Int) = _
  have h1 : BitVec.ofInt 64 IntKind.u64.max = BitVec.allOnes 64 := by decide
  rw [h1, BitVec.allOnes_xor, BitVec.toNat_not, ofInt_u64 a (by omega), IntKind.wrap_u64]
  omega
theorem CodeM.u64_and1 (a : Nat) (ha : a < 18446744073709551616) : bits .and .u64 (a : Int) 1 = ((a % 2 : Nat) : Int) := by
  rw [show (1 : Int) = ((1 : Nat) : Int) from rfl, u64_and_nat a 1 ha (by omega), nat_mask1]
theorem CodeM.zig_neg (n : Int) (h1 : -9223372036854775808 ≤ n) (hn : n < 0) :
    bits .xor .u64 IntKind.u64.max (IntKind.u64.wrap (IntKind.u64.wrap n * 2)) = ((CodeM.zig n : Nat) : Int) := by
  have e1 : IntKind.u64.wrap (IntKind.u64.wrap n * 2) = ((2 * n + 18446744073709551616).toNat : Int) := by
    rw [IntKind.wrap_u64, IntKind.wrap_u64]; omega
  rw [e1, CodeM.u64_not _ (by omega)]
  unfold CodeM.zig
  rw [if_pos hn]
  omega

set_option maxHeartbeats 400000 in
theorem putInt_any (n : Int) (w : World) (h1 : -9223372036854775808 ≤ n) (h2 : n ≤ 9223372036854775807) :
    Calls Try.prog 22 #[.int .i64 n] w fun e w' => e = .returned (.string ⟨(CodeM.putNat (CodeM.zig n)).toArray⟩) ∧ Below w.heap.size w w' := by
  have hsg : IntKind.u64.signed = false := rfl
  by_cases hn : n < 0
  · go_enter Try.func22, Try.ntmps22
    go_wp2_with fail
    rw [CodeM.zig_neg n h1 hn]
    refine (putNat_any _ _ (CodeM.zig_lt n h1 h2)).mono ?_
    rintro e w' ⟨rfl, hb⟩
    go_wp2_with fail
    go_ret
    exact ⟨rfl, hb⟩
  · go_enter Try.func22, Try.ntmps22
    go_wp2_with fail
    rw [show n * 2 = ((CodeM.zig n : Nat) : Int) by unfold CodeM.zig; rw [if_neg (by omega)]; omega]
    refine (putNat_any _ _ (CodeM.zig_lt n h1 h2)).mono ?_
    rintro e w' ⟨rfl, hb⟩
    go_wp2_with fail
    go_ret
    exact ⟨rfl, hb⟩

def CodeM.tupI (x : Nat × Nat × Int) : Value := if x.2.2 = 0 then .tuple #[.int .i64 (CodeM.zag x.1), .int .i64 (x.2.1 : Int), .int .i64 0] else .tuple #[.int .i64 0, .int .i64 0, .int .i64 x.2.2]

set_option maxHeartbeats 1000000 in
theorem getInt_any (s : ByteArray) (w : World) (hs : s.size ≤ 9223372036854775807) :
    Calls Try.prog 23 #[.string s] w fun e w' => e = .returned (CodeM.tupI (CodeM.getNat s.data.toList)) ∧ w = w' := by
  have hsg : IntKind.u64.signed = false := rfl
  generalize hx : CodeM.getNat s.data.toList = x
  obtain ⟨n, k, e⟩ := x
  by_cases he : e = 0
  · subst he
    obtain ⟨h1, h2, h3, h4⟩ := CodeM.get_ok hx
    have H3 := box h3
    have Hx := box hx
    have hand := fun (k : Int) (h : k = 1) => (h ▸ CodeM.u64_and1 n h3 : bits .and .u64 (n : Int) k = _)
    have hn3 : (n : Int) ≤ 18446744073709551615 := by omega
    clear hx h2 h3 h4
    by_cases ho : n % 2 = 1
    · have hand2 := fun (k : Int) (h : k = 1) => (by rw [hand k h, ho]; rfl : bits .and .u64 (n : Int) k = 1)
      clear hand
      have Ho := box ho; clear ho
      go_enter Try.func23, Try.ntmps23
      go_wp2_with fail
      refine (getNat_any s _ hs).mono ?_
      rintro e w' ⟨rfl, rfl⟩
      rw [Hx.out]
      unfold CodeM.tup
      go_wp2_with fail
      go_ret3
      refine ⟨?_, rfl⟩
      have ez : wrap64 (bits .xor .u64 IntKind.u64.max ((n : Int) / 2)) = CodeM.zag n := by
        have h3 := H3.out
        have e1 : (n : Int) / 2 = ((n / 2 : Nat) : Int) := by omega
        rw [e1, CodeM.u64_not _ (by omega)]
        unfold CodeM.zag wrap64
        rw [if_pos Ho.out]
        omega
      unfold CodeM.tupI
      rw [if_pos rfl]
      exact congrArg (fun x => Ending.returned (.tuple #[.int .i64 x, .int .i64 (k : Int), .int .i64 0])) ez
    · have hand2 := fun (k : Int) (h : k = 1) => (by rw [hand k h, show n % 2 = 0 by omega]; rfl : bits .and .u64 (n : Int) k = 0)
      clear hand
      have Ho := box ho; clear ho
      go_enter Try.func23, Try.ntmps23
      go_wp2_with fail
      refine (getNat_any s _ hs).mono ?_
      rintro e w' ⟨rfl, rfl⟩
      rw [Hx.out]
      unfold CodeM.tup
      go_wp2_with fail
      go_ret3
      refine ⟨?_, rfl⟩
      have ez : CodeM.zag n = (n : Int) / 2 := by unfold CodeM.zag; rw [if_neg Ho.out]; omega
      unfold CodeM.tupI
      rw [if_pos rfl]
      exact congrArg (fun x => Ending.returned (.tuple #[.int .i64 x, .int .i64 (k : Int), .int .i64 0])) ez.symm
  · have g1 : (e == 0) = false := by simp [he]
    have g2 : (e != 0) = true := by simp [he]
    have Hx := box hx
    have He := box he
    clear hx he
    go_enter Try.func23, Try.ntmps23
    go_wp2_with fail
    refine (getNat_any s _ hs).mono ?_
    rintro e w' ⟨rfl, rfl⟩
    rw [Hx.out]
    unfold CodeM.tup
    go_wp2_with fail
    go_ret3
    exact ⟨by unfold CodeM.tupI; rw [if_neg He.out]; rfl, rfl⟩
end Go.Proofs.Ytjkgfjnfikcmhaa
