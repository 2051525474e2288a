/- code.GetNat, PutInt, GetInt, PutText, GetText: what they compute. -/
import Derived.Test.YtpeaefeoogcepaaDoorCodeN
namespace Go.Proofs.YtpeaefeoogcepaaDoor
open Go.RowKit Go.Lib

set_option maxHeartbeats 2000000 in
theorem getNat_any (s : ByteArray) (w : World) (hs : s.size ≤ 9223372036854775807) :
    Calls Tryd.prog 34 #[.string s] w fun e w' => e = .returned (CodeM.tup (CodeM.getNat s.data.toList)) ∧ w = w' := by
  go_enter Tryd.func34, Tryd.ntmps34
  go_wp2
  go_loop [5, 10] (fun t5 t10 => CodeM.GRel s t5 t10) (fun _ t10 => s.size - (intOf t10).toNat)
  case atStart => exact ⟨0, 0, rfl, rfl, by omega, by omega, by simp, rfl⟩
  case round =>
    obtain ⟨k, a, rfl, rfl, hk9, hks, ha, hg⟩ := hrel
    have Hg := box hg; have Ha := box ha
    clear hg ha
    by_cases hlt : k < s.size
    case neg =>
      go_wp2
      go_ret3
      exact ⟨by rw [CodeM.getF_end s k a hlt Hg.out]; rfl, rfl⟩
    have hb := s[k].toNat_lt
    have Hat := box (CodeM.getF_at s k a hlt Hg.out)
    by_cases h1 : k = 9
    · have g1 : ((k : Int) == 9) = true := by simp; omega
      have H1 := box h1
      clear h1
      have g0 : decide (0 < k) = true := by have := H1.out; simp; omega
      by_cases h2 : 1 < s[k].toNat
      · have g2 : decide (1 < (s[k].toNat : Int)) = true := by simp; omega
        clear hb
        go_wp2
        go_ret3
        exact ⟨by rw [Hat.out, CodeM.getF, if_pos ⟨H1.out, h2⟩]; rfl, rfl⟩
      · have g2 : decide (1 < (s[k].toNat : Int)) = false := by simp; omega
        have g3 : decide ((s[k].toNat : Int) < 128) = true := by simp; omega
        have hor := box (CodeM.orStep a s[k].toNat k Ha.out hk9 (by omega) (fun _ => by omega))
        have Hb := box hb
        clear hb
        by_cases h3 : s[k].toNat = 0
        · have g4 : ((s[k].toNat : Int) == 0) = true := by simp; omega
          have H3 := box h3; have H2 := box h2
          clear h3 h2
          go_wp2
          go_ret3
          exact ⟨by rw [Hat.out, CodeM.getF, if_neg (fun h => H2.out h.2), if_pos (show s[k].toNat < 128 by have := H3.out; omega), if_pos ⟨H3.out, by have := H1.out; omega⟩]; rfl, rfl⟩
        · have g4 : ((s[k].toNat : Int) == 0) = false := by simp; omega
          have H3 := box h3; have H2 := box h2
          clear h3 h2
          go_wp2
          go_ret3
          refine ⟨?_, rfl⟩
          rw [Hat.out, CodeM.getF, if_neg (fun h => H2.out h.2), if_pos (show s[k].toNat < 128 by have := H2.out; omega), if_neg (fun h => H3.out h.1)]
          have := hor.out
          rw [Nat.mod_eq_of_lt (by have := H2.out; omega)] at this
          exact congrArg (fun x => Ending.returned (Value.tuple #[.int .u64 x, .int .i64 ((k : Int) + 1), .int .i64 0])) this
    have g1 : ((k : Int) == 9) = false := by simp; omega
    have hor := box (CodeM.orStep a s[k].toNat k Ha.out hk9 (by omega) (fun h => absurd h h1))
    have Hb := box hb
    clear hb
    have H1 := box h1
    by_cases h2 : s[k].toNat < 128
    · have g3 : decide ((s[k].toNat : Int) < 128) = true := by simp; omega
      have H2 := box h2
      clear h2
      by_cases h3 : s[k].toNat = 0
      · have g4 : ((s[k].toNat : Int) == 0) = true := by simp; omega
        have H3 := box h3
        clear h3
        by_cases h4 : 0 < k
        · have g0 : decide (0 < k) = true := by simp; omega
          go_wp2
          go_ret3
          exact ⟨by rw [Hat.out, CodeM.getF, if_neg (fun h => H1.out h.1), if_pos H2.out, if_pos ⟨H3.out, h4⟩]; rfl, rfl⟩
        · have g0 : decide (0 < k) = false := by simp; omega
          have H4 := box h4
          clear h4
          go_wp2
          go_ret3
          refine ⟨?_, rfl⟩
          rw [Hat.out, CodeM.getF, if_neg (fun h => H1.out h.1), if_pos H2.out, if_neg (fun h => H4.out h.2)]
          have := hor.out
          rw [Nat.mod_eq_of_lt H2.out] at this
          exact congrArg (fun x => Ending.returned (Value.tuple #[.int .u64 x, .int .i64 ((k : Int) + 1), .int .i64 0])) this
      · have g4 : ((s[k].toNat : Int) == 0) = false := by simp; omega
        have H3 := box h3
        clear h3
        go_wp2
        go_ret3
        refine ⟨?_, rfl⟩
        rw [Hat.out, CodeM.getF, if_neg (fun h => H1.out h.1), if_pos H2.out, if_neg (fun h => H3.out h.1)]
        have := hor.out
        rw [Nat.mod_eq_of_lt H2.out] at this
        exact congrArg (fun x => Ending.returned (Value.tuple #[.int .u64 x, .int .i64 ((k : Int) + 1), .int .i64 0])) this
    · have g2 : decide ((s[k].toNat : Int) < 128) = false := by simp; omega
      have H2 := box h2
      clear h2
      go_wp2
      go_round
      case rel =>
        rw [hor.out]
        refine ⟨k + 1, _, by go_num, rfl, by have := H1.out; omega, hlt, CodeM.acc_lt _ _ _ Ha.out, ?_⟩
        rw [Hat.out, CodeM.getF, if_neg (fun h => H1.out h.1), if_neg H2.out]
      case measure => simp [intOf]; omega

set_option maxHeartbeats 400000 in
theorem putText_large (s : ByteArray) (w : World) (h : 4096 < s.size) :
    Calls Tryd.prog 26 #[.string s] w fun e w' => e = .returned (.tuple #[.string { data := #[] }, .int .i64 2]) ∧ w = w' := by
  have hd : decide ((4096 : Int) < (s.size : Int)) = true := by simp; omega
  have H := box h
  clear h
  go_enter Tryd.func26, Tryd.ntmps26
  go_wp2
  go_ret2
  exact ⟨rfl, rfl⟩

set_option maxHeartbeats 400000 in
theorem putText_any (s : ByteArray) (w : World) (h : s.size ≤ 4096) :
    Calls Tryd.prog 26 #[.string s] w fun e w' => e = .returned (.tuple #[.string ⟨(CodeM.putText s.data.toList).toArray⟩, .int .i64 0]) ∧ Below w.heap.size w w' := by
  have hd : decide ((4096 : Int) < (s.size : Int)) = false := by simp; omega
  have hl := (CodeM.put_len s.size).2
  have happ := fun (l : List UInt8) (hl : l.length ≤ 10) (w : World) => run_string_add_sum (P := Tryd.prog) (w := w) ⟨l.toArray⟩ s
  go_enter Tryd.func26, Tryd.ntmps26
  go_wp2_with fail
  refine (putNat_any s.size _ (by omega)).mono ?_
  rintro e w' ⟨rfl, hb⟩
  have hsz := CodeM.mk_size (CodeM.putNat s.size)
  generalize hx : CodeM.putNat s.size = x at *
  have Hx := box hx
  have Hb := box hb
  clear hx hb
  go_wp2_with fail
  go_ret2
  refine ⟨?_, Hb.out⟩
  have hcat : ByteArray.mk x.toArray ++ s = ⟨(CodeM.putText s.data.toList).toArray⟩ := by
    rw [CodeM.mk_append, CodeM.putText, ← Hx.out]
    rfl
  exact congrArg (fun x => Ending.returned (.tuple #[.string x, .int .i64 0])) hcat

theorem CodeM.getF_err : ∀ (l : List UInt8) (i a : Nat), (CodeM.getF i a l).2.2 = 0 ∨ ((CodeM.getF i a l).1 = 0 ∧ (CodeM.getF i a l).2.1 = 0 ∧ 0 ≤ (CodeM.getF i a l).2.2 ∧ (CodeM.getF i a l).2.2 ≤ 4) := by
  intro l
  induction l with
  | nil => intro i a; simp [CodeM.getF]
  | cons b r ih =>
    intro i a
    simp only [CodeM.getF]
    split
    · simp
    · split
      · split <;> simp
      · exact ih _ _

theorem CodeM.extract_eq (s : ByteArray) (k n : Nat) : s.extract k (k + n) = ⟨((s.data.toList.drop k).take n).toArray⟩ := by
  obtain ⟨⟨l⟩⟩ := s
  rw [ByteArray.extract_mk]
  simp

def CodeM.tupT (x : List UInt8 × Nat × Int) : Value := .tuple #[.string ⟨x.1.toArray⟩, .int .i64 (x.2.1 : Int), .int .i64 x.2.2]

theorem CodeM.u64_not (a : Nat) (ha : a < 18446744073709551616) : bits .xor .u64 IntKind.u64.max (a : Int) = ((18446744073709551615 - a : Nat) : Int) := by
  show IntKind.u64.wrap ((BitVec.ofInt 64 IntKind.u64.max ^^^ BitVec.ofInt 64 (a : Int)).toNat : Int) = _
  have h1 : BitVec.ofInt 64 IntKind.u64.max = BitVec.allOnes 64 := by decide
  rw [h1, BitVec.allOnes_xor, BitVec.toNat_not, ofInt_u64 a (by omega), IntKind.wrap_u64]
  omega
theorem CodeM.u64_and1 (a : Nat) (ha : a < 18446744073709551616) : bits .and .u64 (a : Int) 1 = ((a % 2 : Nat) : Int) := by
  rw [show (1 : Int) = ((1 : Nat) : Int) from rfl, u64_and_nat a 1 ha (by omega), nat_mask1]
theorem CodeM.zig_neg (n : Int) (h1 : -9223372036854775808 ≤ n) (hn : n < 0) :
    bits .xor .u64 IntKind.u64.max (IntKind.u64.wrap (IntKind.u64.wrap n * 2)) = ((CodeM.zig n : Nat) : Int) := by
  have e1 : IntKind.u64.wrap (IntKind.u64.wrap n * 2) = ((2 * n + 18446744073709551616).toNat : Int) := by
    rw [IntKind.wrap_u64, IntKind.wrap_u64]; omega
  rw [e1, CodeM.u64_not _ (by omega)]
  unfold CodeM.zig
  rw [if_pos hn]
  omega

set_option maxHeartbeats 400000 in
theorem putInt_any (n : Int) (w : World) (h1 : -9223372036854775808 ≤ n) (h2 : n ≤ 9223372036854775807) :
    Calls Tryd.prog 44 #[.int .i64 n] w fun e w' => e = .returned (.string ⟨(CodeM.putNat (CodeM.zig n)).toArray⟩) ∧ Below w.heap.size w w' := by
  have hsg : IntKind.u64.signed = false := rfl
  by_cases hn : n < 0
  · go_enter Tryd.func44, Tryd.ntmps44
    go_wp2_with fail
    rw [CodeM.zig_neg n h1 hn]
    refine (putNat_any _ _ (CodeM.zig_lt n h1 h2)).mono ?_
    rintro e w' ⟨rfl, hb⟩
    go_wp2_with fail
    go_ret
    exact ⟨rfl, hb⟩
  · go_enter Tryd.func44, Tryd.ntmps44
    go_wp2_with fail
    rw [show n * 2 = ((CodeM.zig n : Nat) : Int) by unfold CodeM.zig; rw [if_neg (by omega)]; omega]
    refine (putNat_any _ _ (CodeM.zig_lt n h1 h2)).mono ?_
    rintro e w' ⟨rfl, hb⟩
    go_wp2_with fail
    go_ret
    exact ⟨rfl, hb⟩

def CodeM.tupI (x : Nat × Nat × Int) : Value := if x.2.2 = 0 then .tuple #[.int .i64 (CodeM.zag x.1), .int .i64 (x.2.1 : Int), .int .i64 0] else .tuple #[.int .i64 0, .int .i64 0, .int .i64 x.2.2]

set_option maxHeartbeats 1000000 in
theorem getInt_any (s : ByteArray) (w : World) (hs : s.size ≤ 9223372036854775807) :
    Calls Tryd.prog 31 #[.string s] w fun e w' => e = .returned (CodeM.tupI (CodeM.getNat s.data.toList)) ∧ w = w' := by
  have hsg : IntKind.u64.signed = false := rfl
  generalize hx : CodeM.getNat s.data.toList = x
  obtain ⟨n, k, e⟩ := x
  by_cases he : e = 0
  · subst he
    obtain ⟨h1, h2, h3, h4⟩ := CodeM.get_ok hx
    have H3 := box h3
    have Hx := box hx
    have hand := fun (k : Int) (h : k = 1) => (h ▸ CodeM.u64_and1 n h3 : bits .and .u64 (n : Int) k = _)
    have hn3 : (n : Int) ≤ 18446744073709551615 := by omega
    clear hx h2 h3 h4
    by_cases ho : n % 2 = 1
    · have hand2 := fun (k : Int) (h : k = 1) => (by rw [hand k h, ho]; rfl : bits .and .u64 (n : Int) k = 1)
      clear hand
      have Ho := box ho; clear ho
      go_enter Tryd.func31, Tryd.ntmps31
      go_wp2_with fail
      refine (getNat_any s _ hs).mono ?_
      rintro e w' ⟨rfl, rfl⟩
      rw [Hx.out]
      unfold CodeM.tup
      go_wp2_with fail
      go_ret3
      refine ⟨?_, rfl⟩
      have ez : wrap64 (bits .xor .u64 IntKind.u64.max ((n : Int) / 2)) = CodeM.zag n := by
        have h3 := H3.out
        have e1 : (n : Int) / 2 = ((n / 2 : Nat) : Int) := by omega
        rw [e1, CodeM.u64_not _ (by omega)]
        unfold CodeM.zag wrap64
        rw [if_pos Ho.out]
        omega
      unfold CodeM.tupI
      rw [if_pos rfl]
      exact congrArg (fun x => Ending.returned (.tuple #[.int .i64 x, .int .i64 (k : Int), .int .i64 0])) ez
    · have hand2 := fun (k : Int) (h : k = 1) => (by rw [hand k h, show n % 2 = 0 by omega]; rfl : bits .and .u64 (n : Int) k = 0)
      clear hand
      have Ho := box ho; clear ho
      go_enter Tryd.func31, Tryd.ntmps31
      go_wp2_with fail
      refine (getNat_any s _ hs).mono ?_
      rintro e w' ⟨rfl, rfl⟩
      rw [Hx.out]
      unfold CodeM.tup
      go_wp2_with fail
      go_ret3
      refine ⟨?_, rfl⟩
      have ez : CodeM.zag n = (n : Int) / 2 := by unfold CodeM.zag; rw [if_neg Ho.out]; omega
      unfold CodeM.tupI
      rw [if_pos rfl]
      exact congrArg (fun x => Ending.returned (.tuple #[.int .i64 x, .int .i64 (k : Int), .int .i64 0])) ez.symm
  · have g1 : (e == 0) = false := by simp [he]
    have g2 : (e != 0) = true := by simp [he]
    have Hx := box hx
    have He := box he
    clear hx he
    go_enter Tryd.func31, Tryd.ntmps31
    go_wp2_with fail
    refine (getNat_any s _ hs).mono ?_
    rintro e w' ⟨rfl, rfl⟩
    rw [Hx.out]
    unfold CodeM.tup
    go_wp2_with fail
    go_ret3
    exact ⟨by unfold CodeM.tupI; rw [if_neg He.out]; rfl, rfl⟩
end Go.Proofs.YtpeaefeoogcepaaDoor
