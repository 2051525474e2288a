/- make([]T, n): a table. -/
import Derived.Test.YtnnkejolfhhmlaaGreatHeap
import Derived.Laws.MakeOwn
import Derived.Laws.OwnMore
namespace Go.Proofs.YtnnkejolfhhmlaaGreat
open Go.RowKit Go.Lib

theorem run_make_tab {P : Program} (w : World) (t e : TypeId) (i : TypeInfo) (z : Value) (ht : P.underlying t = some (.slice e)) (hi : P.info? e = some i) (hz : i.zero = some z) (hsize : i.size = 1) (hzc : z.cells = #[z])
    (n : Nat) (hbytes : i.bytes * n ≤ 1000000000) (h63 : n ≤ 16777216) :
    (Instr.makeSlice t (.int .i64 (n : Int)) (.int .i64 (n : Int))).run P w = .ok (.slice (some ⟨w.heap.size, 0, none⟩) n n) (w.alloc (.cells (Tab n (fun _ => z)).toArray e)) := by
  have h := run_makeSlice (P := P) w t e i z ht hi hz .i64 .i64 n n (by omega) (by omega) (by rw [hsize]; simpa using h63) (by omega) (by omega)
  rw [h, hsize, hzc]
  congr 2
  congr 1
  apply Array.ext'
  simp only [Int.toNat_natCast, Nat.mul_one]
  rw [toList_madeCells_one]
  apply List.ext_getElem (by simp [Tab_len])
  intro k h1 h2
  simp [Tab]
end Go.Proofs.YtnnkejolfhhmlaaGreat
