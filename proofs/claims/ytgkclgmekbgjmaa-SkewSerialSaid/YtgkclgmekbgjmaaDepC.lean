/- cmp.Or over ints; the order that order.Deps sorts by. -/
import Derived.Test.YtgkclgmekbgjmaaDepA
import Derived.Test.YtgkclgmekbgjmaaDagV
import Derived.Test.YtgkclgmekbgjmaaShCm
namespace Go.Proofs.Ytgkclgmekbgjmaa
open Go.RowKit Go.Lib Go.Sort

set_option maxRecDepth 20000 in
set_option maxHeartbeats 2000000 in
theorem cmpOr_ints (x : List Int) (ao : Option Addr) (cap n : Nat) (w : World) (h : IntsAt w ao x) (hx : x.length = n) (hn : n ≤ 100000) :
    Calls Try.prog 98 #[.slice ao n cap] w fun e w' => e = .returned (.int .i64 (orInt x)) ∧ w' = w := by
  have H := box h; have HX := box hx
  clear h hx
  go_enter Try.func98, Try.ntmps98
  go_wp2_with fail
  go_loopw [8] (fun t8 wr => ∃ k : Nat, wr = w ∧ k ≤ n ∧ t8 = .int .i64 (k : Int) ∧ Box (∀ j (h : j < x.length), j < k → x[j] = 0)) (fun t8 _ => n - (RowKit.intOf t8).toNat)
  case atStart => exact ⟨0, by simp, Nat.zero_le _, rfl, ⟨fun j _ h => by omega⟩⟩
  case round =>
    obtain ⟨k, rfl, hk, rfl, Hall⟩ := hrel
    by_cases hlt : k < n
    · have hx1 : k < x.length := by rw [HX.out]; exact hlt
      obtain ⟨b, off, rfl, _, hrow⟩ := (H.out.resolve_left (by intro h; rw [h] at hx1; simp at hx1))
      have hc0 := hrow k hx1
      have HN : Box (x[k] = 0 → ∀ j (h : j < x.length), j < k + 1 → x[j] = 0) := ⟨fun he j h hj => by
        by_cases e : j = k
        · subst e; exact he
        · exact Hall.out j h (by omega)⟩
      have HD : Box (x[k] ≠ 0 → orInt x = x[k]) := ⟨orInt_at x k hx1 Hall.out⟩
      generalize x[k] = o at *
      clear hrow hx1
      by_cases h0 : o = 0
      · have HN2 := box (HN.out h0)
        have hz2 : (o != 0) = false := by simpa using h0
        clear h0
        go_wp2_with fail
        go_roundw
        case rel => exact ⟨k + 1, by simp, hlt, by go_num, HN2⟩
        case measure => simp [RowKit.intOf]; omega
      · have HN2 := box (HD.out h0)
        have hz2 : (o != 0) = true := by simpa using h0
        clear h0
        go_wp2_with fail
        go_ret
        exact ⟨by rw [HN2.out]; rfl, by simp⟩
    · have hkn : Box (orInt x = 0) := ⟨orInt_zero x (fun j h => Hall.out j h (by have := HX.out; omega))⟩
      go_wp2_with fail
      go_ret
      exact ⟨by rw [hkn.out]; rfl, by simp⟩

theorem intsAt_blkD {w : World} {b : Nat} {l : List Int} (h : Blk w b 3 (intVals l)) : IntsAt w (some ⟨b, 0, none⟩) l :=
  Or.inr ⟨b, 0, rfl, h.lt, fun k hk => by rw [Nat.zero_add]; exact h.cell (by simp [intVals, hk])⟩

set_option maxRecDepth 20000 in
set_option maxHeartbeats 4000000 in
theorem depCmp_any (x y : DepM) (W : World) : Calls Try.prog 97 #[.agg #[.int .i64 x.frm, .int .i64 x.to_, .int .i64 x.kind], .agg #[.int .i64 y.frm, .int .i64 y.to_, .int .i64 y.kind]] W fun e w' => e = .returned (.int .i64 (DepM.cf x y)) ∧ ∃ q os', w' = grow (W.drewN q) os' := by
  have hcon := fun a b W' => AnyG.cmp_Compare_int Try.cmpInt a b W'
  change ∀ a b W', Calls Try.prog 65 _ _ _ at hcon
  have HC := box hcon
  obtain ⟨x0, x1, x2⟩ := x
  obtain ⟨y0, y1, y2⟩ := y
  have HF := box (show DepM.cf ⟨x0, x1, x2⟩ ⟨y0, y1, y2⟩ = orInt [Lib.compareInt x0 y0, Lib.compareInt x1 y1, Lib.compareInt x2 y2] from rfl)
  obtain ⟨r, Hr⟩ : ∃ r, Box (DepM.cf ⟨x0, x1, x2⟩ ⟨y0, y1, y2⟩ = r) := ⟨_, ⟨rfl⟩⟩
  rw [Hr.out] at HF ⊢
  clear hcon
  go_enter Try.func97, Try.ntmps97
  go_upto_region 1 with (fail)
  refine name_world (fun V => Box (∃ os', V = grow (W.drewN 0) os') ∧ V.cell? ⟨W.heap.size, 0, none⟩ = some (.int .i64 x0) ∧ V.cell? ⟨W.heap.size, 1, none⟩ = some (.int .i64 x1) ∧ V.cell? ⟨W.heap.size, 2, none⟩ = some (.int .i64 x2) ∧ V.cell? ⟨W.heap.size + 1, 0, none⟩ = some (.int .i64 y0) ∧ V.cell? ⟨W.heap.size + 1, 1, none⟩ = some (.int .i64 y1) ∧ V.cell? ⟨W.heap.size + 1, 2, none⟩ = some (.int .i64 y2)) ?_ ?_
  · have h1 := Blk.new W [.int .i64 x0, .int .i64 x1, .int .i64 x2] 106
    have h2 := h1.alloc (.cells #[.int .i64 y0, .int .i64 y1, .int .i64 y2] 106)
    have h3 := Blk.new (W.alloc (.cells #[.int .i64 x0, .int .i64 x1, .int .i64 x2] 106)) [.int .i64 y0, .int .i64 y1, .int .i64 y2] 106
    rw [show (W.alloc (.cells #[.int .i64 x0, .int .i64 x1, .int .i64 x2] 106)).heap.size = W.heap.size + 1 by simp] at h3
    exact ⟨⟨_, by rw [alloc_eq_grow, alloc_eq_grow, grow_grow]; rfl⟩, h2.cell rfl, h2.cell rfl, h2.cell rfl, h3.cell rfl, h3.cell rfl, h3.cell rfl⟩
  rintro V ⟨HG, a0, a1, a2, b0, b1, b2⟩
  have HOr : Box (∀ c0 c1 c2 : Int, ∀ Vx : World, Calls Try.prog 98 #[.slice (some ⟨Vx.heap.size, 0, none⟩) 3 3] (Vx.alloc (.cells #[.int .i64 c0, .int .i64 c1, .int .i64 c2] 3)).drew fun e w' => e = .returned (.int .i64 (orInt [c0, c1, c2])) ∧ w' = (Vx.alloc (.cells #[.int .i64 c0, .int .i64 c1, .int .i64 c2] 3)).drew) := ⟨fun c0 c1 c2 Vx =>
    cmpOr_ints [c0, c1, c2] _ 3 3 _ (intsAt_blkD (Blk.new Vx (intVals [c0, c1, c2]) 3).drew) rfl (by omega)⟩
  generalize W.heap.size = A at *
  have HK : Box (∀ o : Obj, (V.alloc o).cell? ⟨A, 0, none⟩ = some (.int .i64 x0) ∧ (V.alloc o).cell? ⟨A, 1, none⟩ = some (.int .i64 x1) ∧ (V.alloc o).cell? ⟨A, 2, none⟩ = some (.int .i64 x2) ∧ (V.alloc o).cell? ⟨A + 1, 0, none⟩ = some (.int .i64 y0) ∧ (V.alloc o).cell? ⟨A + 1, 1, none⟩ = some (.int .i64 y1) ∧ (V.alloc o).cell? ⟨A + 1, 2, none⟩ = some (.int .i64 y2)) := ⟨fun o => by
    have hb : Below V.heap.size V (V.alloc o) := (Below.refl _ _).alloc (Nat.le_refl _) o
    have key : ∀ b i x, V.cell? ⟨b, i, none⟩ = some x → (V.alloc o).cell? ⟨b, i, none⟩ = some x := fun b i x h => (hb.cell (p := ⟨b, i, none⟩) (block_lt_of_cell h)).trans h
    exact ⟨key _ _ _ a0, key _ _ _ a1, key _ _ _ a2, key _ _ _ b0, key _ _ _ b1, key _ _ _ b2⟩⟩
  go_region_held3 (fun w' => w'.cell? ⟨A, 0, none⟩ = some (.int .i64 x0) ∧ w'.cell? ⟨A, 1, none⟩ = some (.int .i64 x1) ∧ w'.cell? ⟨A, 2, none⟩ = some (.int .i64 x2) ∧ w'.cell? ⟨A + 1, 0, none⟩ = some (.int .i64 y0) ∧ w'.cell? ⟨A + 1, 1, none⟩ = some (.int .i64 y1) ∧ w'.cell? ⟨A + 1, 2, none⟩ = some (.int .i64 y2)) (first | exact ⟨a0, a1, a2, b0, b1, b2⟩ | exact HK.out _) (first
    | (go_at_call 65; refine (HC.out _ _ _).mono ?_; rintro e w9 ⟨rfl, rfl⟩)
    | (go_at_call 98; refine (HOr.out _ _ _ _).mono ?_; rintro e w9 ⟨rfl, rfl⟩))
  rw [← HF.out]
  go_wp2_with fail
  go_ret
  exact ⟨rfl, 1, by
    obtain ⟨os', hV⟩ := HG.out
    rw [hV, alloc_eq_grow, grow_grow]
    exact ⟨_, rfl⟩⟩
end Go.Proofs.Ytgkclgmekbgjmaa
