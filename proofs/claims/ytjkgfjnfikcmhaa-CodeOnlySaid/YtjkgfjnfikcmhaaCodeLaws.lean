/- The walks of CodeBack and CodeOnly. -/
import Derived.Test.YtjkgfjnfikcmhaaLawKit
import Derived.Test.YtjkgfjnfikcmhaaCode
namespace Go.Proofs.Ytjkgfjnfikcmhaa
open Go.RowKit Go.Lib

theorem putNat_300 (w : World) : Calls Try.prog 19 #[.int .u64 300] w fun e w' => e = .returned (.string { data := #[172, 2] }) ∧ Below w.heap.size w w' :=
  (putNat_any 300 w (by decide)).mono fun e w' ⟨h1, h2⟩ => ⟨by rw [h1]; rfl, h2⟩
theorem putInt_3 (w : World) : Calls Try.prog 22 #[.int .i64 (-3)] w fun e w' => e = .returned (.string { data := #[5] }) ∧ Below w.heap.size w w' :=
  (putInt_any (-3) w (by decide) (by decide)).mono fun e w' ⟨h1, h2⟩ => ⟨by rw [h1]; rfl, h2⟩

/-- Text a ++ more, as bytes. -/
theorem CodeM.cat (l : List UInt8) (more : ByteArray) : (ByteArray.mk l.toArray ++ more).data.toList = l ++ more.data.toList := by simp

set_option maxRecDepth 20000 in
set_option maxHeartbeats 2000000 in
theorem codeBack_calls (n : Nat) (k : Int) (s more : ByteArray) (w : World) (hn : n < 18446744073709551616) (hk1 : -9223372036854775808 ≤ k) (hk2 : k ≤ 9223372036854775807)
    (hs : s.size ≤ 140737488355328) (hm : more.size ≤ 140737488355328) :
    Calls Try.prog 7 #[.int .u64 (n : Int), .int .i64 k, .string s, .string more] w fun e w' => e = .returned (.bool true) ∧ Below w.heap.size w w' := by
  have ha := CodeM.get_put n more.data.toList hn
  have hb := CodeM.get_put (CodeM.zig k) more.data.toList (CodeM.zig_lt k hk1 hk2)
  have hz := CodeM.zag_zig k
  have la := (CodeM.put_len n).2
  have lb := (CodeM.put_len (CodeM.zig k)).2
  have Hn := box hn
  have Hk := box (And.intro hk1 hk2)
  clear hn hk1 hk2
  go_enter Try.func7, Try.ntmps7
  go_wp2_with fail
  refine (putNat_300 _).mono ?_
  rintro e w1 ⟨rfl, hb1⟩
  have Hb1 := box hb1; clear hb1
  go_wp2_with fail
  refine (putInt_3 _).mono ?_
  rintro e w2 ⟨rfl, hb2⟩
  have Hb2 := box hb2; clear hb2
  go_wp2_with fail
  refine (putNat_any n _ Hn.out).mono ?_
  rintro e w3 ⟨rfl, hb3⟩
  have Hb3 := box hb3; clear hb3
  have hA := CodeM.cat (CodeM.putNat n) more
  have hAs := CodeM.mk_size (CodeM.putNat n)
  generalize ByteArray.mk (CodeM.putNat n).toArray = A at *
  generalize CodeM.putNat n = pn at *
  go_wp2_with fail
  refine (putInt_any k _ Hk.out.1 Hk.out.2).mono ?_
  rintro e w4 ⟨rfl, hb4⟩
  have Hb4 := box hb4; clear hb4
  have hB := CodeM.cat (CodeM.putNat (CodeM.zig k)) more
  have hBs := CodeM.mk_size (CodeM.putNat (CodeM.zig k))
  generalize ByteArray.mk (CodeM.putNat (CodeM.zig k)).toArray = B at *
  generalize CodeM.putNat (CodeM.zig k) = pk at *
  rw [← hA] at ha
  rw [← hB] at hb
  have Ha := box ha; have Hb := box hb; have Hz := box hz
  clear ha hb hA hB hz
  go_wp2_with fail
  refine (getNat_any (A ++ more) _ (by rw [ByteArray.size_append]; omega)).mono ?_
  rintro e w5 ⟨rfl, rfl⟩
  rw [Ha.out]
  unfold CodeM.tup
  go_wp2_with fail
  refine (getInt_any (B ++ more) _ (by rw [ByteArray.size_append]; omega)).mono ?_
  rintro e w6 ⟨rfl, rfl⟩
  rw [Hb.out]
  unfold CodeM.tupI
  rw [if_pos rfl, Hz.out]
  by_cases hl : s.size ≤ 4096
  · have g1 : decide ((4096 : Int) < (s.size : Int)) = false := by simp; omega
    go_wp2_with fail
    refine (putText_any s _ hl).mono ?_
    rintro e w7 ⟨rfl, hb7⟩
    have Hb7 := box hb7; clear hb7
    have hgt := CodeM.getText_put s.data.toList more.data.toList hl
    have lt : (CodeM.putText s.data.toList).length ≤ 5000 := by
      have := (CodeM.put_len s.data.toList.length).2
      have e : s.data.toList.length = s.size := rfl
      simp only [CodeM.putText, List.length_append]; omega
    have hT := CodeM.cat (CodeM.putText s.data.toList) more
    have hTs := CodeM.mk_size (CodeM.putText s.data.toList)
    generalize ByteArray.mk (CodeM.putText s.data.toList).toArray = T at *
    generalize CodeM.putText s.data.toList = pt at *
    rw [← hT] at hgt
    have Hgt := box hgt
    clear hgt hT
    go_wp2_with fail
    refine (getText_any (T ++ more) _ (by rw [ByteArray.size_append]; omega)).mono ?_
    rintro e w8 ⟨rfl, rfl⟩
    rw [Hgt.out]
    unfold CodeM.tupT
    rw [show ByteArray.mk s.data.toList.toArray = s from rfl]
    go_wp2_with fail
    go_ret
    exact ⟨rfl, below_tr (below_tr (below_tr (below_tr Hb1.out Hb2.out) Hb3.out) Hb4.out) Hb7.out⟩
  · have g1 : decide ((4096 : Int) < (s.size : Int)) = true := by simp; omega
    go_wp2_with fail
    refine (putText_large s _ (by omega)).mono ?_
    rintro e w7 ⟨rfl, rfl⟩
    have Hl := box hl; clear hl
    go_wp2_with fail
    go_ret
    exact ⟨rfl, below_tr (below_tr (below_tr Hb1.out Hb2.out) Hb3.out) Hb4.out⟩

theorem getNat_300 (w : World) : Calls Try.prog 18 #[.string { data := #[172, 2] }] w fun e w' => e = .returned (.tuple #[.int .u64 300, .int .i64 2, .int .i64 0]) ∧ w = w' :=
  (getNat_any { data := #[172, 2] } w (by decide)).mono fun e w' ⟨h1, h2⟩ => ⟨by rw [h1]; rfl, h2⟩
theorem CodeM.mk_take (s : ByteArray) (l : List UInt8) (k : Nat) (h : l = s.data.toList.take k) : ByteArray.mk l.toArray = s.extract 0 k := by
  subst h
  obtain ⟨⟨l⟩⟩ := s
  rw [ByteArray.extract_mk]
  simp

/-- The end of CodeOnly: the greater number has no fewer bytes. -/
def CodeM.EndsTrue (w : World) (e : Ending) (w' : World) : Prop := e = .returned (.bool true) ∧ Below w.heap.size w w'
theorem below_drewN (w : World) (n : Nat) : Below w.heap.size w (w.drewN n) := ⟨rfl, rfl, rfl, Nat.le_refl _, fun _ _ => rfl⟩

set_option maxRecDepth 20000 in
set_option maxHeartbeats 2000000 in
theorem codeOnly_none (s : ByteArray) (n m : Nat) (w : World) (hs : s.size ≤ 140737488355328) (hn : n < 18446744073709551616) (hm : m < 18446744073709551616)
    (e : Int) (x k : Nat) (he : e ≠ 0) (hx : CodeM.getNat s.data.toList = (x, k, e)) :
    Calls Try.prog 6 #[.string s, .int .u64 (n : Int), .int .u64 (m : Int)] w (CodeM.EndsTrue w) := by
  have g1 : (e == 0) = false := by simp [he]
  have hy : Box (CodeM.getText s.data.toList = ([], 0, e)) := ⟨by
    unfold CodeM.getText
    rw [hx]
    simp only
    rw [if_pos he]⟩
  have Hx := box hx
  have Hn := box hn; have Hm := box hm
  clear hx he hn hm
  go_enter Try.func6, Try.ntmps6
  go_wp2_with fail
  refine (getNat_300 _).mono ?_
  rintro e w' ⟨rfl, rfl⟩
  go_wp2_with fail
  refine (getNat_any s _ (by omega)).mono ?_
  rintro e w' ⟨rfl, rfl⟩
  rw [Hx.out]
  unfold CodeM.tup
  go_wp2_with fail
  go_quiet (fail)
  go_wp2_with fail
  refine (getText_any s _ (by omega)).mono ?_
  rintro e w' ⟨rfl, rfl⟩
  rw [hy.out]
  unfold CodeM.tupT
  by_cases hmn : m < n
  · go_wp2_with fail
    refine (putNat_any m _ (by have := Hn.out; have := Hm.out; omega)).mono ?_
    rintro e wa ⟨rfl, hba⟩
    have Hba := box hba
    have sA := CodeM.mk_size (CodeM.putNat m)
    have Hle := box (CodeM.put_len_mono (show m ≤ n by omega))
    have lA := (CodeM.put_len m).2
    clear hba
    generalize ByteArray.mk (CodeM.putNat m).toArray = A at *
    generalize hpA : CodeM.putNat m = pA at sA lA Hle
    clear hpA
    go_wp2_with fail
    refine (putNat_any n _ (by have := Hn.out; have := Hm.out; omega)).mono ?_
    rintro e wb ⟨rfl, hbb⟩
    have Hbb := box hbb
    have sB := CodeM.mk_size (CodeM.putNat n)
    have lB := (CodeM.put_len n).2
    clear hbb
    generalize ByteArray.mk (CodeM.putNat n).toArray = B at *
    generalize hpB : CodeM.putNat n = pB at *
    clear hpB
    have hd : decide (pA.length ≤ pB.length) = true := decide_eq_true Hle.out
    go_wp2_with fail
    go_ret
    exact ⟨rfl, below_tr (below_tr (below_drewN w _) Hba.out) Hbb.out⟩
  by_cases hnm : n < m
  · go_wp2_with fail
    refine (putNat_any n _ (by have := Hn.out; have := Hm.out; omega)).mono ?_
    rintro e wa ⟨rfl, hba⟩
    have Hba := box hba
    have sA := CodeM.mk_size (CodeM.putNat n)
    have Hle := box (CodeM.put_len_mono (show n ≤ m by omega))
    have lA := (CodeM.put_len n).2
    clear hba
    generalize ByteArray.mk (CodeM.putNat n).toArray = A at *
    generalize hpA : CodeM.putNat n = pA at sA lA Hle
    clear hpA
    go_wp2_with fail
    refine (putNat_any m _ (by have := Hn.out; have := Hm.out; omega)).mono ?_
    rintro e wb ⟨rfl, hbb⟩
    have Hbb := box hbb
    have sB := CodeM.mk_size (CodeM.putNat m)
    have lB := (CodeM.put_len m).2
    clear hbb
    generalize ByteArray.mk (CodeM.putNat m).toArray = B at *
    generalize hpB : CodeM.putNat m = pB at *
    clear hpB
    have hd : decide (pA.length ≤ pB.length) = true := decide_eq_true Hle.out
    go_wp2_with fail
    go_ret
    exact ⟨rfl, below_tr (below_tr (below_drewN w _) Hba.out) Hbb.out⟩
  obtain rfl : n = m := by omega
  go_wp2_with fail
  refine (putNat_any n _ (by have := Hn.out; have := Hm.out; omega)).mono ?_
  rintro e wa ⟨rfl, hba⟩
  have Hba := box hba
  have sA := CodeM.mk_size (CodeM.putNat n)
  have Hle := box (Nat.le_refl (CodeM.putNat n).length)
  have lA := (CodeM.put_len n).2
  clear hba
  generalize ByteArray.mk (CodeM.putNat n).toArray = A at *
  generalize hpA : CodeM.putNat n = pA at *
  go_wp2_with fail
  refine (putNat_any n _ (by have := Hn.out; have := Hm.out; omega)).mono ?_
  rintro e wb ⟨rfl, hbb⟩
  have Hbb := box hbb
  have sB := CodeM.mk_size pA
  clear hbb
  rw [hpA]
  generalize ByteArray.mk pA.toArray = B at *
  clear hpA
  go_wp2_with fail
  go_ret
  exact ⟨rfl, below_tr (below_tr (below_drewN w _) Hba.out) Hbb.out⟩

set_option maxRecDepth 20000 in
set_option maxHeartbeats 2000000 in
theorem codeOnly_nat (s : ByteArray) (n m : Nat) (w : World) (hs : s.size ≤ 140737488355328) (hn : n < 18446744073709551616) (hm : m < 18446744073709551616)
    (e2 : Int) (x k : Nat) (he : e2 ≠ 0) (hx : CodeM.getNat s.data.toList = (x, k, 0)) (hy0 : CodeM.getText s.data.toList = ([], 0, e2)) :
    Calls Try.prog 6 #[.string s, .int .u64 (n : Int), .int .u64 (m : Int)] w (CodeM.EndsTrue w) := by
  have g1 : (e2 == 0) = false := by simp [he]
  have hy := box hy0
  obtain ⟨h1, h2, h3, h4⟩ := CodeM.get_ok hx
  have h2' : k ≤ s.size := h2
  have H3 := box h3
  have H4 := box (CodeM.mk_take s _ k h4)
  have Hx := box hx
  have Hn := box hn; have Hm := box hm
  clear hx he hn hm hy0 h2 h3 h4
  go_enter Try.func6, Try.ntmps6
  go_wp2_with fail
  refine (getNat_300 _).mono ?_
  rintro e w' ⟨rfl, rfl⟩
  go_wp2_with fail
  refine (getNat_any s _ (by omega)).mono ?_
  rintro e w' ⟨rfl, rfl⟩
  rw [Hx.out]
  unfold CodeM.tup
  go_wp2_with fail
  have d1 : decide ((k : Int) < 1) = false := by simp; omega
  have d2 : decide ((s.size : Int) < (k : Int)) = false := by simp; omega
  have d3 : decide (s.size < k) = false := by simp; omega
  go_region_held3 (fun _ => True) (trivial) (first | (go_at_call 19; refine (putNat_any x _ H3.out).mono ?_; rintro e w1 ⟨rfl, hb1⟩; rw [H4.out]; have Hb1 := box hb1; clear hb1))
  go_wp2_with fail
  refine (getText_any s _ (by omega)).mono ?_
  rintro e w' ⟨rfl, rfl⟩
  rw [hy.out]
  unfold CodeM.tupT
  by_cases hmn : m < n
  · go_wp2_with fail
    refine (putNat_any m _ (by have := Hn.out; have := Hm.out; omega)).mono ?_
    rintro e wa ⟨rfl, hba⟩
    have Hba := box hba
    have sA := CodeM.mk_size (CodeM.putNat m)
    have Hle := box (CodeM.put_len_mono (show m ≤ n by omega))
    have lA := (CodeM.put_len m).2
    clear hba
    generalize ByteArray.mk (CodeM.putNat m).toArray = A at *
    generalize hpA : CodeM.putNat m = pA at sA lA Hle
    clear hpA
    go_wp2_with fail
    refine (putNat_any n _ (by have := Hn.out; have := Hm.out; omega)).mono ?_
    rintro e wb ⟨rfl, hbb⟩
    have Hbb := box hbb
    have sB := CodeM.mk_size (CodeM.putNat n)
    have lB := (CodeM.put_len n).2
    clear hbb
    generalize ByteArray.mk (CodeM.putNat n).toArray = B at *
    generalize hpB : CodeM.putNat n = pB at *
    clear hpB
    have hd : decide (pA.length ≤ pB.length) = true := decide_eq_true Hle.out
    go_wp2_with fail
    go_ret
    exact ⟨rfl, below_tr (below_tr (below_tr (below_drewN w _) Hb1.out) Hba.out) Hbb.out⟩
  by_cases hnm : n < m
  · go_wp2_with fail
    refine (putNat_any n _ (by have := Hn.out; have := Hm.out; omega)).mono ?_
    rintro e wa ⟨rfl, hba⟩
    have Hba := box hba
    have sA := CodeM.mk_size (CodeM.putNat n)
    have Hle := box (CodeM.put_len_mono (show n ≤ m by omega))
    have lA := (CodeM.put_len n).2
    clear hba
    generalize ByteArray.mk (CodeM.putNat n).toArray = A at *
    generalize hpA : CodeM.putNat n = pA at sA lA Hle
    clear hpA
    go_wp2_with fail
    refine (putNat_any m _ (by have := Hn.out; have := Hm.out; omega)).mono ?_
    rintro e wb ⟨rfl, hbb⟩
    have Hbb := box hbb
    have sB := CodeM.mk_size (CodeM.putNat m)
    have lB := (CodeM.put_len m).2
    clear hbb
    generalize ByteArray.mk (CodeM.putNat m).toArray = B at *
    generalize hpB : CodeM.putNat m = pB at *
    clear hpB
    have hd : decide (pA.length ≤ pB.length) = true := decide_eq_true Hle.out
    go_wp2_with fail
    go_ret
    exact ⟨rfl, below_tr (below_tr (below_tr (below_drewN w _) Hb1.out) Hba.out) Hbb.out⟩
  obtain rfl : n = m := by omega
  go_wp2_with fail
  refine (putNat_any n _ (by have := Hn.out; have := Hm.out; omega)).mono ?_
  rintro e wa ⟨rfl, hba⟩
  have Hba := box hba
  have sA := CodeM.mk_size (CodeM.putNat n)
  have Hle := box (Nat.le_refl (CodeM.putNat n).length)
  have lA := (CodeM.put_len n).2
  clear hba
  generalize ByteArray.mk (CodeM.putNat n).toArray = A at *
  generalize hpA : CodeM.putNat n = pA at *
  go_wp2_with fail
  refine (putNat_any n _ (by have := Hn.out; have := Hm.out; omega)).mono ?_
  rintro e wb ⟨rfl, hbb⟩
  have Hbb := box hbb
  have sB := CodeM.mk_size pA
  clear hbb
  rw [hpA]
  generalize ByteArray.mk pA.toArray = B at *
  clear hpA
  go_wp2_with fail
  go_ret
  exact ⟨rfl, below_tr (below_tr (below_tr (below_drewN w _) Hb1.out) Hba.out) Hbb.out⟩

set_option maxRecDepth 20000 in
set_option maxHeartbeats 2000000 in
theorem codeOnly_text (s : ByteArray) (n m : Nat) (w : World) (hs : s.size ≤ 140737488355328) (hn : n < 18446744073709551616) (hm : m < 18446744073709551616)
    (t : List UInt8) (j x k : Nat) (hx : CodeM.getNat s.data.toList = (x, k, 0)) (hy0 : CodeM.getText s.data.toList = (t, j, 0)) :
    Calls Try.prog 6 #[.string s, .int .u64 (n : Int), .int .u64 (m : Int)] w (CodeM.EndsTrue w) := by
  have hy := box hy0
  obtain ⟨h1, h2, h3, h4⟩ := CodeM.get_ok hx
  obtain ⟨t1, t2, t3⟩ := CodeM.getText_ok hy0
  have h2' : k ≤ s.size := h2
  have t2' : j ≤ s.size := t2
  have H3 := box h3
  have H4 := box (CodeM.mk_take s _ k h4)
  have T3 := box (CodeM.mk_take s _ j t3)
  have Hx := box hx
  have Hn := box hn; have Hm := box hm
  clear hx hn hm hy0 h2 h3 h4 t2 t3
  have hts := CodeM.mk_size t
  have d1 : decide ((k : Int) < 1) = false := by simp; omega
  have d2 : decide ((s.size : Int) < (k : Int)) = false := by simp; omega
  have d3 : decide (s.size < k) = false := by simp; omega
  have d4 : decide ((s.size : Int) < (j : Int)) = false := by simp; omega
  have d5 : decide (s.size < j) = false := by simp; omega
  go_enter Try.func6, Try.ntmps6
  go_wp2_with fail
  refine (getNat_300 _).mono ?_
  rintro e w' ⟨rfl, rfl⟩
  go_wp2_with fail
  refine (getNat_any s _ (by omega)).mono ?_
  rintro e w' ⟨rfl, rfl⟩
  rw [Hx.out]
  unfold CodeM.tup
  go_wp2_with fail
  go_region_held3 (fun _ => True) (trivial) (first | (go_at_call 19; refine (putNat_any x _ H3.out).mono ?_; rintro e w1 ⟨rfl, hb1⟩; rw [H4.out]; have Hb1 := box hb1; clear hb1))
  go_wp2_with fail
  refine (getText_any s _ (by omega)).mono ?_
  rintro e w' ⟨rfl, rfl⟩
  rw [hy.out]
  unfold CodeM.tupT
  have hput : ∀ w, Calls Try.prog 21 #[.string (ByteArray.mk t.toArray)] w fun e w' => e = .returned (.tuple #[.string ⟨(CodeM.putText t).toArray⟩, .int .i64 0]) ∧ Below w.heap.size w w' :=
    fun w => putText_any (ByteArray.mk t.toArray) w (by rw [hts]; exact t1)
  have Hput := box hput
  clear hput
  generalize ByteArray.mk t.toArray = T at *
  go_wp2_with fail
  refine (Hput.out _).mono ?_
  rintro e w2 ⟨rfl, hb2⟩
  rw [T3.out]
  have Hb2 := box hb2
  clear hb2
  by_cases hmn : m < n
  · go_wp2_with fail
    refine (putNat_any m _ (by have := Hn.out; have := Hm.out; omega)).mono ?_
    rintro e wa ⟨rfl, hba⟩
    have Hba := box hba
    have sA := CodeM.mk_size (CodeM.putNat m)
    have Hle := box (CodeM.put_len_mono (show m ≤ n by omega))
    have lA := (CodeM.put_len m).2
    clear hba
    generalize ByteArray.mk (CodeM.putNat m).toArray = A at *
    generalize hpA : CodeM.putNat m = pA at sA lA Hle
    clear hpA
    go_wp2_with fail
    refine (putNat_any n _ (by have := Hn.out; have := Hm.out; omega)).mono ?_
    rintro e wb ⟨rfl, hbb⟩
    have Hbb := box hbb
    have sB := CodeM.mk_size (CodeM.putNat n)
    have lB := (CodeM.put_len n).2
    clear hbb
    generalize ByteArray.mk (CodeM.putNat n).toArray = B at *
    generalize hpB : CodeM.putNat n = pB at *
    clear hpB
    have hd : decide (pA.length ≤ pB.length) = true := decide_eq_true Hle.out
    go_wp2_with fail
    go_ret
    exact ⟨rfl, below_tr (below_tr (below_tr (below_tr (below_drewN w _) Hb1.out) Hb2.out) Hba.out) Hbb.out⟩
  by_cases hnm : n < m
  · go_wp2_with fail
    refine (putNat_any n _ (by have := Hn.out; have := Hm.out; omega)).mono ?_
    rintro e wa ⟨rfl, hba⟩
    have Hba := box hba
    have sA := CodeM.mk_size (CodeM.putNat n)
    have Hle := box (CodeM.put_len_mono (show n ≤ m by omega))
    have lA := (CodeM.put_len n).2
    clear hba
    generalize ByteArray.mk (CodeM.putNat n).toArray = A at *
    generalize hpA : CodeM.putNat n = pA at sA lA Hle
    clear hpA
    go_wp2_with fail
    refine (putNat_any m _ (by have := Hn.out; have := Hm.out; omega)).mono ?_
    rintro e wb ⟨rfl, hbb⟩
    have Hbb := box hbb
    have sB := CodeM.mk_size (CodeM.putNat m)
    have lB := (CodeM.put_len m).2
    clear hbb
    generalize ByteArray.mk (CodeM.putNat m).toArray = B at *
    generalize hpB : CodeM.putNat m = pB at *
    clear hpB
    have hd : decide (pA.length ≤ pB.length) = true := decide_eq_true Hle.out
    go_wp2_with fail
    go_ret
    exact ⟨rfl, below_tr (below_tr (below_tr (below_tr (below_drewN w _) Hb1.out) Hb2.out) Hba.out) Hbb.out⟩
  obtain rfl : n = m := by omega
  go_wp2_with fail
  refine (putNat_any n _ (by have := Hn.out; have := Hm.out; omega)).mono ?_
  rintro e wa ⟨rfl, hba⟩
  have Hba := box hba
  have sA := CodeM.mk_size (CodeM.putNat n)
  have Hle := box (Nat.le_refl (CodeM.putNat n).length)
  have lA := (CodeM.put_len n).2
  clear hba
  generalize ByteArray.mk (CodeM.putNat n).toArray = A at *
  generalize hpA : CodeM.putNat n = pA at *
  go_wp2_with fail
  refine (putNat_any n _ (by have := Hn.out; have := Hm.out; omega)).mono ?_
  rintro e wb ⟨rfl, hbb⟩
  have Hbb := box hbb
  have sB := CodeM.mk_size pA
  clear hbb
  rw [hpA]
  generalize ByteArray.mk pA.toArray = B at *
  clear hpA
  go_wp2_with fail
  go_ret
  exact ⟨rfl, below_tr (below_tr (below_tr (below_tr (below_drewN w _) Hb1.out) Hb2.out) Hba.out) Hbb.out⟩

theorem CodeM.getText_err {l t : List UInt8} {j : Nat} {e : Int} (h : CodeM.getText l = (t, j, e)) (he : e ≠ 0) : t = [] ∧ j = 0 := by
  unfold CodeM.getText at h
  simp only at h
  split at h
  · rw [Prod.mk.injEq, Prod.mk.injEq] at h; exact ⟨h.1.symm, h.2.1.symm⟩
  · split at h
    · rw [Prod.mk.injEq, Prod.mk.injEq] at h; exact ⟨h.1.symm, h.2.1.symm⟩
    · split at h
      · rw [Prod.mk.injEq, Prod.mk.injEq] at h; exact ⟨h.1.symm, h.2.1.symm⟩
      · rw [Prod.mk.injEq, Prod.mk.injEq] at h; exact absurd h.2.2.symm he

theorem codeOnly_calls (s : ByteArray) (n m : Nat) (w : World) (hs : s.size ≤ 140737488355328) (hn : n < 18446744073709551616) (hm : m < 18446744073709551616) :
    Calls Try.prog 6 #[.string s, .int .u64 (n : Int), .int .u64 (m : Int)] w (CodeM.EndsTrue w) := by
  obtain ⟨x, k, e, hx⟩ : ∃ x k e, CodeM.getNat s.data.toList = (x, k, e) := ⟨_, _, _, rfl⟩
  by_cases he : e = 0
  case neg => exact codeOnly_none s n m w hs hn hm e x k he hx
  subst he
  obtain ⟨t, j, e2, hy⟩ : ∃ t j e2, CodeM.getText s.data.toList = (t, j, e2) := ⟨_, _, _, rfl⟩
  by_cases he : e2 = 0
  · subst he; exact codeOnly_text s n m w hs hn hm t j x k hx hy
  · obtain ⟨rfl, rfl⟩ := CodeM.getText_err hy he
    exact codeOnly_nat s n m w hs hn hm e2 x k he hx hy

end Go.Proofs.Ytjkgfjnfikcmhaa
