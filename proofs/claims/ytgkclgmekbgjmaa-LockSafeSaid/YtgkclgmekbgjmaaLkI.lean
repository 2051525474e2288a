/- Facts on the types of locks. -/
import Derived.Test.YtgkclgmekbgjmaaLk
import Derived.Deep.Strs
import Derived.Lib.SmallJoins
namespace Go.Proofs.Ytgkclgmekbgjmaa
open Go.RowKit Go.Lib

theorem Try.infoLk : (Try.prog.info? 74).map (fun i => (i.zero, i.size, i.bytes)) = some (some (.agg #[.int .i64 0, .int .i64 0]), 2, 16) := by kernel_rfl
theorem Try.infoLi : (Try.prog.info? 72).map (fun i => (i.zero, i.size, i.bytes)) = some (some (.agg #[.int .i64 0, .slice none 0 0, .slice none 0 0]), 3, 56) := by kernel_rfl
end Go.Proofs.Ytgkclgmekbgjmaa
