/- '==' of two arrays of ints that are the same. -/
import Derived.Test.YtlmibgjflgkalaaLastW
import Derived.Test.YtlmibgjflgkalaaStamp
import Derived.ChangeKeysEq
namespace Go.Proofs.Ytlmibgjflgkalaa
open Go.RowKit Go.Lib

theorem eqItems_same (d : Nat) (xs : Array Value) (w : World) : ∀ is : List Nat, (∀ i ∈ is, ∃ k : Int, xs[i]? = some (.int .i64 k)) → (Op.eqItems (d + 1) 3 1 xs xs is).run Try.prog w = .ok true w
  | [], _ => by simp [Op.eqItems]
  | i :: is, h => by
    obtain ⟨k, hk⟩ := h i (by simp)
    have h1 := run_part_plain (P := Try.prog) w (e := 3) (by kernel_rfl) hk
    simp only [Op.eqItems, Sem.run_bind, Nat.mul_one, h1, Result.andThen_ok, run_equalIn_int w d 3 .i64 .i64 k k Try.underlying3, beq_self_eq_true, Bool.not_true, Bool.false_eq_true, if_false]
    exact eqItems_same d xs w is (fun j hj => h j (by simp [hj]))
theorem equal_same (f : Nat → Int) (w : World) : (Op.equalIn 10000 53 (.agg (Tab 20 fun i => Value.int .i64 (f i)).toArray) (.agg (Tab 20 fun i => Value.int .i64 (f i)).toArray)).run Try.prog w = .ok true w := by
  obtain ⟨i0, hi0, _⟩ := info_parts Try.infoI
  have hc : Try.prog.cellsOf 3 = 1 := by kernel_rfl
  rw [run_equalIn_array w 9999 _ _ Try.underlying53 hi0, hc, eqItems_same]
  · intro i hi
    have hi20 := List.mem_range.1 hi
    exact ⟨f i, by rw [List.getElem?_toArray]; simp [Tab, hi20]⟩
theorem eql_same (f : Nat → Int) (w : World) : (binOp .eql 53 (.agg (Tab 20 fun i => Value.int .i64 (f i)).toArray) (.agg (Tab 20 fun i => Value.int .i64 (f i)).toArray)).run Try.prog w = .ok (.bool true) w := by
  rw [run_eql_struct, equal_same]
  rfl
end Go.Proofs.Ytlmibgjflgkalaa
