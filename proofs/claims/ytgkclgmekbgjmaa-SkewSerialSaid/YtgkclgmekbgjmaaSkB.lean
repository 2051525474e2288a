/- skew.beside, skew.skips and the closures of skew. -/
import Derived.Test.YtgkclgmekbgjmaaSkW
import Derived.Test.YtgkclgmekbgjmaaIntCF
import Derived.Deep.RegionHeld3
namespace Go.Proofs.Ytgkclgmekbgjmaa
open Go.RowKit Go.Lib

section
variable {w wa : World} {N : Nat} {st : SkSt} {v : Nat → Value}
set_option maxRecDepth 20000 in
set_option maxHeartbeats 4000000 in
theorem beside_any (h : SkM.SW w N st v wa) {a b : Nat} (ha : a < 12) (hb : b < 12) :
    Calls Try.prog 143 #[.pointer (some ⟨N, a * 6, none⟩), .pointer (some ⟨N, b * 6, none⟩)] wa fun e w' => e = .returned (.bool (SkM.beside st a b)) ∧ Below wa.heap.size wa w' := by
  have c1 := h.cell (i := a * 6 + 1) (by omega)
  have c2 := h.cell (i := a * 6 + 2) (by omega)
  have c3 := h.cell (i := a * 6 + 3) (by omega)
  have d1 := h.cell (i := b * 6 + 1) (by omega)
  have d2 := h.cell (i := b * 6 + 2) (by omega)
  have d3 := h.cell (i := b * 6 + 3) (by omega)
  rw [SkM.cell_dn a ha] at c1
  rw [SkM.cell_fr a ha] at c2
  rw [SkM.cell_at a ha] at c3
  rw [SkM.cell_dn b hb] at d1
  rw [SkM.cell_fr b hb] at d2
  rw [SkM.cell_at b hb] at d3
  have HS := box (show SkM.beside st a b = ((!st.dn a || decide (st.fr b < st.at_ a)) && (!st.dn b || decide (st.fr a < st.at_ b))) from rfl)
  have HR := box (fun k => below_dN (Below.refl wa.heap.size wa) k)
  clear h
  generalize SkM.beside st a b = r at *
  generalize st.dn a = na at *
  generalize st.dn b = nb at *
  generalize st.fr a = fa at *
  generalize st.fr b = fb at *
  generalize st.at_ a = aa at *
  generalize st.at_ b = ab at *
  cases q1 : decide (fb < aa) <;> cases q2 : decide (fa < ab) <;> cases na <;> cases nb <;>
  ( rw [q1, q2] at HS
    go_enter Try.func143, Try.ntmps143
    go_upto_region 1 with (fail)
    go_quiet (fail)
    go_wp2_with fail
    go_ret
    exact ⟨by rw [HS.out]; rfl, HR.out _⟩)
set_option maxRecDepth 20000 in
set_option maxHeartbeats 2000000 in
theorem skips_tells (h : SkM.SW w N st v wa) {y C : Nat} (hy : y < 12) (hn : (st.rows (12 + y)).length ≤ 9000000000000000000) (hc : wa.cell? ⟨C, 0, none⟩ = some (.pointer (some ⟨N, y * 6, none⟩))) :
    Tells 183 #[.pointer (some ⟨C, 0, none⟩)] (fun k => decide (k ∈ st.rows (12 + y))) wa := by
  intro x
  obtain ⟨ao, cap, _, hat, hcell, _⟩ := h.row (r := 12 + y) (by omega)
  rw [SkM.place_wr hy] at hcell
  have HC := box (contains_ints (st.rows (12 + y)) x ao cap wa hat hn)
  clear h hat
  generalize st.rows (12 + y) = b at *
  go_enter Try.func183, Try.ntmps183
  go_wp2_with fail
  refine HC.out.mono ?_
  rintro e w' ⟨rfl, rfl⟩
  obtain ⟨y, HY⟩ : ∃ y, Box (decide (x ∈ b) = y) := ⟨_, ⟨rfl⟩⟩
  rw [HY.out]
  go_wp2_with fail
  go_ret
  exact ⟨by rw [HY.out]; rfl, rfl⟩
set_option maxRecDepth 20000 in
set_option maxHeartbeats 2000000 in
theorem clash_tells (h : SkM.SW w N st v wa) {y C : Nat} (hy : y < 12) (hn : (st.rows (12 + y)).length ≤ 9000000000000000000) (hc : wa.cell? ⟨C, 0, none⟩ = some (.pointer (some ⟨N, y * 6, none⟩))) :
    Tells 145 #[.pointer (some ⟨C, 0, none⟩)] (fun k => decide (k ∈ st.rows (12 + y))) wa := by
  intro x
  obtain ⟨ao, cap, _, hat, hcell, _⟩ := h.row (r := 12 + y) (by omega)
  rw [SkM.place_wr hy] at hcell
  have HC := box (contains_ints (st.rows (12 + y)) x ao cap wa hat hn)
  clear h hat
  generalize st.rows (12 + y) = b at *
  go_enter Try.func145, Try.ntmps145
  go_wp2_with fail
  refine HC.out.mono ?_
  rintro e w' ⟨rfl, rfl⟩
  obtain ⟨y, HY⟩ : ∃ y, Box (decide (x ∈ b) = y) := ⟨_, ⟨rfl⟩⟩
  rw [HY.out]
  go_wp2_with fail
  go_ret
  exact ⟨by rw [HY.out]; rfl, rfl⟩

/-- Does a read something that b writes, and not see it? -/
def SkM.skips (st : SkSt) (a b : Nat) : Bool := SkM.beside st a b && (st.rows a).any fun k => decide (k ∈ st.rows (12 + b))
set_option maxRecDepth 20000 in
set_option maxHeartbeats 4000000 in
theorem skips_any (h : SkM.SW w N st v wa) {a b : Nat} (ha : a < 12) (hb : b < 12) (hn : ∀ r, r < 24 → (st.rows r).length ≤ 9000000000000000000) :
    Calls Try.prog 146 #[.pointer (some ⟨N, a * 6, none⟩), .pointer (some ⟨N, b * 6, none⟩)] wa fun e w' => e = .returned (.bool (SkM.skips st a b)) ∧ Below wa.heap.size wa w' := by
  have H := box h
  have hs0 := h.b0.lt
  have hna := hn a (by omega)
  have hnb := hn (12 + b) (by omega)
  have hw := h.alloc (.cells #[.pointer (some ⟨N, b * 6, none⟩)] 186)
  have HB := box ((Below.refl wa.heap.size wa).alloc (Nat.le_refl _) (.cells #[.pointer (some ⟨N, b * 6, none⟩)] 186))
  have HK := box (Blk.new wa [.pointer (some ⟨N, b * 6, none⟩)] 186)
  have HS := box (show SkM.skips st a b = (SkM.beside st a b && (st.rows a).any fun k => decide (k ∈ st.rows (12 + b))) from rfl)
  clear h hn
  go_enter Try.func146, Try.ntmps146
  go_upto_region 1 with (fail)
  refine name_world (fun W => SkM.SW w N st v W ∧ Below wa.heap.size wa W ∧ Blk W wa.heap.size 186 [.pointer (some ⟨N, b * 6, none⟩)]) ⟨hw, HB.out, HK.out⟩ ?_
  clear hw
  rintro W ⟨hW, hB, hK⟩
  have HSZ := box hB.size
  obtain ⟨C, HE⟩ : ∃ C, Box (wa.heap.size = C) := ⟨_, ⟨rfl⟩⟩
  rw [HE.out] at hB hK HSZ ⊢
  have HW := box hW; have HBW := box hB; have HKW := box hK
  obtain ⟨ao, cap, _, hat, hcell, _⟩ := hW.row (r := a) (by omega)
  rw [SkM.place_rd ha] at hcell
  have hk0 := hK.cell (i := 0) rfl
  clear hW hB hK
  have HAT := box hat
  clear hat
  obtain ⟨bs, HBS⟩ : ∃ bs, Box (SkM.beside st a b = bs) := ⟨_, ⟨rfl⟩⟩
  go_wp2_with fail
  refine (beside_any HW.out ha hb).mono ?_
  rintro e w1 ⟨rfl, hb1⟩
  rw [HBS.out] at HS ⊢
  have HW1 := box (HW.out.after hb1)
  have HB1 := box (HBW.out.trans (hb1.mono HSZ.out))
  have HK1 := box (HKW.out.after hb1)
  clear hb1 hk0 hcell HAT
  obtain ⟨ao, cap, _, hat, hcell, _⟩ := HW1.out.row (r := a) (by omega)
  rw [SkM.place_rd ha] at hcell
  have hk0 := HK1.out.cell (i := 0) rfl
  have HT := box (skips_tells HW1.out (C := C) hb hnb hk0)
  have HC := box (containsFunc_ints (st.rows a) ao cap 183 #[.pointer (some ⟨C, 0, none⟩)] _ _ hat hna HT.out (enters_fn Try.func183 (by kernel_rfl) rfl))
  clear hat
  cases bs with
  | false =>
    go_wp2_with fail
    go_ret
    exact ⟨by rw [HS.out]; rfl, by rw [HE.out]; exact HB1.out⟩
  | true =>
    go_wp2_with fail
    refine HC.out.mono ?_
    rintro e w' ⟨rfl, rfl⟩
    obtain ⟨y, HY⟩ : ∃ y, Box (((st.rows a).any fun k => decide (k ∈ st.rows (12 + b))) = y) := ⟨_, ⟨rfl⟩⟩
    rw [HY.out] at HS ⊢
    go_wp2_with fail
    go_ret
    exact ⟨by rw [HS.out]; rfl, by rw [HE.out]; exact HB1.out⟩
end
end Go.Proofs.Ytgkclgmekbgjmaa
