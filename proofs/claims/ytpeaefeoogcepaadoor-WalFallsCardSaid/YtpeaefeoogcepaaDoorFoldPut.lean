/- fold.Put, fold.Get and quirref.Rest: what they compute. -/
import Derived.Test.YtpeaefeoogcepaaDoorHeap
import Derived.Test.YtpeaefeoogcepaaDoorFoldM
namespace Go.Proofs.YtpeaefeoogcepaaDoor
open Go.RowKit Go.Lib

theorem FoldSum.mk_append (s : ByteArray) (l : List UInt8) : s ++ ByteArray.mk l.toArray = ⟨(s.data.toList ++ l).toArray⟩ := by
  apply ByteArray.ext
  simp

theorem FoldSum.tail_cells (l : List UInt8) (N : Int) (hN : FoldSum.sum l = N) (w : World) :
    ∀ j (hj : j < (FoldSum.tail l).length), (w.alloc (.cells #[.int .u8 (N / 16777216), .int .u8 (N / 65536 % 256), .int .u8 (N / 256 % 256), .int .u8 (N % 256)] 5)).cell? ((⟨w.heap.size, 0, none⟩ : Addr).add j) = some (.int .u8 ((FoldSum.tail l)[j].toNat : Int)) := by
  intro j hj
  have hb := FoldSum.sum_lt l
  rw [hN] at hb
  have ht : FoldSum.tail l = [UInt8.ofNat (N.toNat / 16777216), UInt8.ofNat (N.toNat / 65536), UInt8.ofNat (N.toNat / 256), UInt8.ofNat N.toNat] := by
    simp only [FoldSum.tail, hN]
  have hadd : (⟨w.heap.size, 0, none⟩ : Addr).add j = ⟨w.heap.size, j, none⟩ := by rw [Addr.add_lit]; simp
  rw [hadd]
  have hcell : ∀ (C : Array Value), (w.alloc (.cells C 5)).cell? ⟨w.heap.size, j, none⟩ = C[j]? := by
    intro C
    have : (w.alloc (.cells C 5)).heap[w.heap.size]? = some (.cells C 5 (0, 0)) := heap_alloc_new w _
    exact cell_of_row _ _ _ _ _ _ this
  rw [hcell]
  simp only [ht] at hj ⊢
  match j, hj with
  | 0, _ => simp [UInt8.toNat_ofNat']; omega
  | 1, _ => simp [UInt8.toNat_ofNat']; omega
  | 2, _ => simp [UInt8.toNat_ofNat']; omega
  | 3, _ => simp [UInt8.toNat_ofNat']; omega

set_option maxRecDepth 20000 in
set_option maxHeartbeats 1000000 in
theorem put_any (s : ByteArray) (w : World) (h : s.size ≤ 4096) :
    Calls Tryd.prog 27 #[.string s] w fun e w' => e = .returned (.tuple #[.string ⟨(s.data.toList ++ FoldSum.tail s.data.toList).toArray⟩, .int .i64 0]) ∧ Below w.heap.size w w' := by
  have hd : decide ((4096 : Int) < (s.size : Int)) = false := by simp; omega
  obtain ⟨N, hN⟩ : ∃ N, FoldSum.sum s.data.toList = N := ⟨_, rfl⟩
  obtain ⟨b1, b2⟩ := FoldSum.sum_lt s.data.toList
  rw [hN] at b1 b2
  have hcv := run_convert_bytes_back (P := Tryd.prog) (w.alloc (.cells #[.int .u8 (N / 16777216), .int .u8 (N / 65536 % 256), .int .u8 (N / 256 % 256), .int .u8 (N % 256)] 5)) 79 9 5 ⟨w.heap.size, 0, none⟩ 4 (FoldSum.tail s.data.toList)
    Tryd.underlying79 Tryd.underlying5 Tryd.underlying9 (FoldSum.tail_cells _ N hN w)
  have ht4 : (FoldSum.tail s.data.toList).length = 4 := rfl
  rw [ht4] at hcv
  have hts := FoldSum.mk_append s (FoldSum.tail s.data.toList)
  have htz : (ByteArray.mk (FoldSum.tail s.data.toList).toArray).size = 4 := rfl
  generalize ByteArray.mk (FoldSum.tail s.data.toList).toArray = T at *
  have Hts := box hts
  have HN := box hN
  clear hts hN ht4
  go_enter Tryd.func27, Tryd.ntmps27
  go_wp2_with fail
  refine (sum_any s _ (by unfold maxLen; omega)).mono ?_
  rintro e w' ⟨rfl, rfl⟩
  rw [HN.out]
  go_wp2_with fail
  go_ret2
  refine ⟨?_, (Below.refl _ _).alloc (Nat.le_refl _) _⟩
  exact congrArg (fun x => Ending.returned (.tuple #[.string x, .int .i64 0])) Hts.out

theorem FoldSum.extract0 (Z : ByteArray) (x y : List UInt8) (hZ : Z.data.toList = x ++ y) : Z.extract 0 x.length = ⟨x.toArray⟩ := by
  obtain ⟨⟨l⟩⟩ := Z
  simp only at hZ
  subst hZ
  rw [ByteArray.extract_mk]
  simp
theorem FoldSum.size_of (Z : ByteArray) (l : List UInt8) (hZ : Z.data.toList = l) : Z.size = l.length := by
  subst hZ; rfl
theorem FoldSum.eq_mk (Z : ByteArray) (l : List UInt8) (hZ : Z.data.toList = l) : ByteArray.mk l.toArray = Z := by
  subst hZ; rfl

set_option maxRecDepth 20000 in
set_option maxHeartbeats 1000000 in
theorem get_yes (Z : ByteArray) (x : List UInt8) (w : World) (hZ : Z.data.toList = x ++ FoldSum.tail x) (hx : x.length ≤ 4096) :
    Calls Tryd.prog 36 #[.string Z] w fun e w' => e = .returned (.tuple #[.string ⟨x.toArray⟩, .int .i64 0]) ∧ Below w.heap.size w w' := by
  have hput : ∀ w, Calls Tryd.prog 27 #[.string (ByteArray.mk x.toArray)] w fun e w' => e = .returned (.tuple #[.string ⟨(x ++ FoldSum.tail x).toArray⟩, .int .i64 0]) ∧ Below w.heap.size w w' :=
    fun w => put_any (ByteArray.mk x.toArray) w hx
  have Hput := box hput
  have hsz := FoldSum.size_of Z _ hZ
  have ht4 : (FoldSum.tail x).length = 4 := rfl
  rw [List.length_append, ht4] at hsz
  have hex := FoldSum.extract0 Z x _ hZ
  have He := box (FoldSum.eq_mk Z _ hZ)
  have hd : decide ((4096 : Int) < (x.length : Int)) = false := by simp; omega
  have hd2 : decide ((x.length : Int) < 0) = false := by simp
  generalize hX : ByteArray.mk x.toArray = X at *
  clear hX hZ hput ht4
  go_enter Tryd.func36, Tryd.ntmps36
  go_wp2_with fail
  refine (Hput.out _).mono ?_
  rintro e w' ⟨rfl, hb⟩
  rw [He.out]
  have Hb := box hb; clear hb
  go_wp2_with fail
  go_ret2
  exact ⟨rfl, Hb.out⟩

set_option maxRecDepth 20000 in
set_option maxHeartbeats 1000000 in
theorem get_no (Z : ByteArray) (x y : List UInt8) (w : World) (hZ : Z.data.toList = x ++ y) (hy : y.length = 4) (hx : x.length ≤ 4096) (hne : FoldSum.tail x ≠ y) :
    Calls Tryd.prog 36 #[.string Z] w fun e w' => e = .returned (.tuple #[.string { data := #[] }, .int .i64 5]) ∧ Below w.heap.size w w' := by
  have hput : ∀ w, Calls Tryd.prog 27 #[.string (ByteArray.mk x.toArray)] w fun e w' => e = .returned (.tuple #[.string ⟨(x ++ FoldSum.tail x).toArray⟩, .int .i64 0]) ∧ Below w.heap.size w w' :=
    fun w => put_any (ByteArray.mk x.toArray) w hx
  have Hput := box hput
  have hsz := FoldSum.size_of Z _ hZ
  rw [List.length_append, hy] at hsz
  have hex := FoldSum.extract0 Z x _ hZ
  have hne2 : ByteArray.mk (x ++ FoldSum.tail x).toArray ≠ Z := by
    intro h
    subst h
    simp only at hZ
    exact hne (List.append_cancel_left hZ)
  have hd : decide ((4096 : Int) < (x.length : Int)) = false := by simp; omega
  have hd2 : decide ((x.length : Int) < 0) = false := by simp
  generalize hX : ByteArray.mk x.toArray = X at *
  generalize ByteArray.mk (x ++ FoldSum.tail x).toArray = Y at *
  have q3 : (Y.toList == Z.toList) = false := by
    rw [beq_eq_false_iff_ne]
    intro h
    rw [ByteArray.toList_eq, ByteArray.toList_eq] at h
    exact hne2 (ByteArray.ext (Array.toList_inj.1 h))
  have q4 : (Y.toList != Z.toList) = true := by rw [bne, q3]; rfl
  clear hX hZ hput hy hne hne2
  go_enter Tryd.func36, Tryd.ntmps36
  go_wp2_with fail
  refine (Hput.out _).mono ?_
  rintro e w' ⟨rfl, hb⟩
  have Hb := box hb; clear hb
  go_wp2_with fail
  go_ret2
  exact ⟨rfl, Hb.out⟩

end Go.Proofs.YtpeaefeoogcepaaDoor
