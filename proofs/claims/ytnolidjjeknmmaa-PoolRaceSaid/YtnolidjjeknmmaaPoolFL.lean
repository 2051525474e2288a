/- pool.Check, Fifo, Lru: what they compute. -/
import Derived.Test.YtnolidjjeknmmaaPoolRun
import Derived.Deep.OwnRows
namespace Go.Proofs.Ytnolidjjeknmmaa
open Go.RowKit Go.Lib

def PoolM.check (size : Int) (n : Nat) : Int := if size < 1 ∨ 50 < size then 1 else if 2000 < n then 2 else 0
set_option maxRecDepth 20000 in
set_option maxHeartbeats 2000000 in
theorem poolCheck_any (size : Int) (n : Nat) (ao : Option Addr) (cap : Nat) (w : World) :
    Calls Try.prog 70 #[.int .i64 size, .slice ao n cap] w fun e w' => e = .returned (.int .i64 (PoolM.check size n)) ∧ w = w' := by
  by_cases h1 : size < 1
  · have HE : Box (PoolM.check size n = 1) := ⟨by unfold PoolM.check; rw [if_pos (Or.inl h1)]⟩
    have d1 : decide (size < 1) = true := decide_eq_true h1
    clear h1
    go_enter Try.func70, Try.ntmps70
    go_wp2_with fail
    go_ret
    exact ⟨by rw [HE.out]; rfl, rfl⟩
  have d1 : decide (size < 1) = false := decide_eq_false h1
  by_cases h2 : 50 < size
  · have HE : Box (PoolM.check size n = 1) := ⟨by unfold PoolM.check; rw [if_pos (Or.inr h2)]⟩
    have d2 : decide (50 < size) = true := decide_eq_true h2
    clear h1 h2
    go_enter Try.func70, Try.ntmps70
    go_wp2_with fail
    go_ret
    exact ⟨by rw [HE.out]; rfl, rfl⟩
  have d2 : decide (50 < size) = false := decide_eq_false h2
  by_cases h3 : 2000 < n
  · have HE : Box (PoolM.check size n = 2) := ⟨by unfold PoolM.check; rw [if_neg (by omega), if_pos h3]⟩
    have d3 : decide ((2000 : Int) < (n : Int)) = true := by simp; omega
    clear h1 h2 h3
    go_enter Try.func70, Try.ntmps70
    go_wp2_with fail
    go_ret
    exact ⟨by rw [HE.out]; rfl, rfl⟩
  have d3 : decide ((2000 : Int) < (n : Int)) = false := by simp; omega
  have HE : Box (PoolM.check size n = 0) := ⟨by unfold PoolM.check; rw [if_neg (by omega), if_neg h3]⟩
  clear h1 h2 h3
  go_enter Try.func70, Try.ntmps70
  go_wp2_with fail
  go_ret
  exact ⟨by rw [HE.out]; rfl, rfl⟩
theorem PoolM.check_ok {size : Int} {n : Nat} (h : PoolM.check size n = 0) : ∃ s : Nat, size = (s : Int) ∧ 1 ≤ s ∧ s ≤ 50 ∧ n ≤ 2000 := by
  unfold PoolM.check at h
  split at h
  · omega
  · split at h
    · omega
    · exact ⟨size.toNat, by omega, by omega, by omega, by omega⟩
theorem PoolM.check_codes (size : Int) (n : Nat) : PoolM.check size n = 0 ∨ PoolM.check size n = 1 ∨ PoolM.check size n = 2 := by
  unfold PoolM.check
  split
  · simp
  · split <;> simp

theorem grownBy_refl1 (w : World) (row : Option Nat) : w.grownBy w row := ⟨rfl, rfl, rfl, Nat.le_refl _, fun _ _ _ => rfl⟩
/-- What a rule leaves. -/
def PoolPost (pick : List Int → Nat → Nat) (seen : List Int → Int → List Int) (size : Int) (refs : List Int) (w : World) (e : Ending) (w' : World) : Prop :=
  Below w.heap.size w w' ∧
    ((PoolM.check size refs.length ≠ 0 ∧ e = .returned (.tuple #[.slice none 0 0, .slice none 0 0, .int .i64 (PoolM.check size refs.length)])) ∨
     (PoolM.check size refs.length = 0 ∧ ∃ hv kv, e = .returned (.tuple #[hv, kv, .int .i64 0]) ∧ w'.ownsRow w.heap.size 4 1 hv refs.length (boolVals (PoolM.hits pick seen size.toNat refs refs.length)) ∧
        w'.ownsRow w.heap.size 3 1 kv (PoolM.kept pick seen size.toNat refs refs.length).length (intVals (PoolM.kept pick seen size.toNat refs refs.length))))

set_option maxRecDepth 20000 in
theorem oldest_ok (n : Nat) (w : World) : PickOk 74 #[] PoolM.oldest n w := by
  intro W l ao cap i _ _ _ _ _
  show Calls Try.prog 74 #[.slice ao l.length cap, .int .i64 (i : Int)] W _
  go_enter Try.func74, Try.ntmps74
  go_wp2_with fail
  go_ret
  exact ⟨rfl, Below.refl _ _⟩
set_option maxRecDepth 20000 in
theorem same_ok (w : World) : SeenOk 77 #[] PoolM.same w := by
  intro W l x v _ ho _ _
  have HO := box ho
  clear ho
  show Calls Try.prog 77 #[v, .int .i64 x] W _
  go_enter Try.func77, Try.ntmps77
  go_wp2_with fail
  go_ret
  exact ⟨v, rfl, rfl, HO.out, grownBy_refl1 _ _⟩

set_option maxRecDepth 20000 in
set_option maxHeartbeats 2000000 in
theorem touch_ok (w : World) : SeenOk 71 #[] PoolM.touch w := by
  intro W l x v hb ho hx hl
  obtain ⟨i0, hi0, hz0, hz1, hz2⟩ := info_parts IntsM.infoI
  have HB := box hb
  obtain ⟨ao, cap, rfl, _, hat, _, hlc⟩ := IntsAt.own ho
  have h0 : 0 < l.length := List.length_pos_of_mem hx
  obtain ⟨g, c', hv, hg1, hg2, hg3⟩ := ownsRow_shape ho (by
    intro h
    simp only [Value.slice.injEq] at h
    omega)
  simp only [Value.slice.injEq, true_and] at hv
  obtain ⟨rfl, rfl⟩ := hv
  have hlt : l.findIdx (fun y => x == y) < l.length := List.findIdx_lt_length_of_exists ⟨x, hx, by simp⟩
  have HI : Box (IntsM.idx l x = ((l.findIdx (fun y => x == y) : Nat) : Int)) := ⟨by unfold IntsM.idx IntsM.find; rw [if_pos hlt]⟩
  have HTo : Box (PoolM.touch l x = l.eraseIdx (l.findIdx (fun y => x == y)) ++ [x]) := ⟨rfl⟩
  have HO := box ho; have HAt := box hat
  generalize l.findIdx (fun y => x == y) = k at *
  have w1' : IntKind.i64.wrap ((k : Int) + 1) = (k : Int) + 1 := IntWalk.i64_in _ (by omega)
  clear hb ho hat hx
  show Calls Try.prog 71 #[.slice (some ⟨g, 0, none⟩) l.length cap, .int .i64 x] W _
  go_enter Try.func71, Try.ntmps71
  go_wp2_with fail
  refine (index_ints l x _ cap W HAt.out (by omega)).mono ?_
  rintro e w1 ⟨rfl, rfl⟩
  rw [HI.out]
  go_wp2_with fail
  refine (deleteInts_any l k cap g w.heap.size W HO.out hlt hg3 (own_cap HO.out)).mono ?_
  rintro e w4 ⟨rfl, hownD, hgr⟩
  have hel : (l.eraseIdx k).length + 1 = l.length := by rw [List.length_eraseIdx, if_pos hlt]; omega
  have HG := box hgr
  have hown2 := hownD.alloc (.cells #[.int .i64 x] 3)
  obtain ⟨m, HM⟩ : ∃ m, Box ((l.eraseIdx k).length = m) := ⟨_, ⟨rfl⟩⟩
  rw [HM.out] at hown2 hel ⊢
  have HEl := box hel
  clear hel
  go_wp2_with (at_builtin; go_must (refine wpList_append_fits _ rfl _ _ 25 rfl w.heap.size 3 i0 1 Try.underlying25 hi0 hz1 g m cap (intVals (l.eraseIdx k)) rfl hown2 ⟨w4.heap.size, 0, none⟩ 1 1 [.int .i64 x] rfl rfl (cells_new w4 [.int .i64 x] 3) (by simp [Value.oneCell']) (by have := HEl.out; omega) ?_))
  intro w5 hown5 hgrow5
  have HO5 : Box (w5.ownsRow w.heap.size 3 1 (.slice (some ⟨g, 0, none⟩) (m + 1) cap) (PoolM.touch l x).length (intVals (PoolM.touch l x))) := ⟨by
    rw [HTo.out, intVals_append, List.length_append, HM.out]; exact hown5⟩
  have HG5 : Box (W.grownBy w5 (some g)) := ⟨⟨hgrow5.os.trans HG.out.os, hgrow5.tape.trans HG.out.tape, hgrow5.output.trans HG.out.output, Nat.le_trans HG.out.size (Nat.le_trans (by simp) hgrow5.size), fun j hj hne =>
    (hgrow5.block j (by simp; have := HG.out.size; omega) hne).trans ((Below.heap_alloc _ _ _ (Nat.lt_of_lt_of_le hj HG.out.size)).trans (HG.out.block j hj hne))⟩⟩
  clear hown2 hown5 hgrow5 hownD hgr
  go_wp2_with fail
  go_ret
  exact ⟨_, rfl, rfl, HO5.out, HG5.out⟩

set_option maxRecDepth 20000 in
set_option maxHeartbeats 2000000 in
theorem fifo_any (size : Int) (refs : List Int) (ao : Option Addr) (cap : Nat) (w : World) (h : IntsAt w ao refs) :
    Calls Try.prog 48 #[.int .i64 size, .slice ao refs.length cap] w (PoolPost PoolM.oldest PoolM.same size refs w) := by
  have HC := box (poolCheck_any size refs.length ao cap w)
  by_cases hc : PoolM.check size refs.length = 0
  · obtain ⟨s, rfl, h1, h2, h3⟩ := PoolM.check_ok hc
    have HR := box (poolRun_any s refs 74 77 #[] #[] PoolM.oldest PoolM.same ao cap w h h1 h2 h3 PoolM.rule_fifo (oldest_ok _ _) (same_ok _)
      (enters_fn Try.func74 (by kernel_rfl) rfl) (enters_fn Try.func77 (by kernel_rfl) rfl))
    have Hc := box hc
    rw [hc] at HC
    clear hc h
    go_enter Try.func48, Try.ntmps48
    go_wp2_with fail
    refine HC.out.mono ?_
    rintro e w1 ⟨rfl, rfl⟩
    go_wp2_with fail
    refine HR.out.mono ?_
    rintro e w2 ⟨hv, kv, rfl, h1, h2, h3⟩
    have H1 := box h1; have H2 := box h2; have H3 := box h3
    clear h1 h2 h3
    go_wp2_with fail
    refine bodyPost_ret (v := .tuple #[hv, kv, .int .i64 0]) (by simp [results, Try.results48, go_sem]) rfl ⟨H3.out, Or.inr ⟨Hc.out, hv, kv, rfl, H1.out, H2.out⟩⟩
  · obtain ⟨c, Hcc⟩ : ∃ c, Box (PoolM.check size refs.length = c) := ⟨_, ⟨rfl⟩⟩
    rw [Hcc.out] at HC hc
    have d0 : (c == 0) = false := by simpa using hc
    have d1 : (c != 0) = true := by simpa using hc
    have Hc := box hc
    clear hc h
    go_enter Try.func48, Try.ntmps48
    go_wp2_with fail
    refine HC.out.mono ?_
    rintro e w1 ⟨rfl, rfl⟩
    go_wp2_with fail
    refine bodyPost_ret (v := .tuple #[.slice none 0 0, .slice none 0 0, .int .i64 c]) (by simp [results, Try.results48, go_sem]) rfl ⟨Below.refl _ _, Or.inl ⟨by rw [Hcc.out]; exact Hc.out, by rw [Hcc.out]⟩⟩

set_option maxRecDepth 20000 in
set_option maxHeartbeats 2000000 in
theorem lru_any (size : Int) (refs : List Int) (ao : Option Addr) (cap : Nat) (w : World) (h : IntsAt w ao refs) :
    Calls Try.prog 44 #[.int .i64 size, .slice ao refs.length cap] w (PoolPost PoolM.oldest PoolM.touch size refs w) := by
  have HC := box (poolCheck_any size refs.length ao cap w)
  by_cases hc : PoolM.check size refs.length = 0
  · obtain ⟨s, rfl, h1, h2, h3⟩ := PoolM.check_ok hc
    have HR := box (poolRun_any s refs 74 71 #[] #[] PoolM.oldest PoolM.touch ao cap w h h1 h2 h3 PoolM.rule_lru (oldest_ok _ _) (touch_ok _)
      (enters_fn Try.func74 (by kernel_rfl) rfl) (enters_fn Try.func71 (by kernel_rfl) rfl))
    have Hc := box hc
    rw [hc] at HC
    clear hc h
    go_enter Try.func44, Try.ntmps44
    go_wp2_with fail
    refine HC.out.mono ?_
    rintro e w1 ⟨rfl, rfl⟩
    go_wp2_with fail
    refine HR.out.mono ?_
    rintro e w2 ⟨hv, kv, rfl, h1, h2, h3⟩
    have H1 := box h1; have H2 := box h2; have H3 := box h3
    clear h1 h2 h3
    go_wp2_with fail
    refine bodyPost_ret (v := .tuple #[hv, kv, .int .i64 0]) (by simp [results, Try.results44, go_sem]) rfl ⟨H3.out, Or.inr ⟨Hc.out, hv, kv, rfl, H1.out, H2.out⟩⟩
  · obtain ⟨c, Hcc⟩ : ∃ c, Box (PoolM.check size refs.length = c) := ⟨_, ⟨rfl⟩⟩
    rw [Hcc.out] at HC hc
    have d0 : (c == 0) = false := by simpa using hc
    have d1 : (c != 0) = true := by simpa using hc
    have Hc := box hc
    clear hc h
    go_enter Try.func44, Try.ntmps44
    go_wp2_with fail
    refine HC.out.mono ?_
    rintro e w1 ⟨rfl, rfl⟩
    go_wp2_with fail
    refine bodyPost_ret (v := .tuple #[.slice none 0 0, .slice none 0 0, .int .i64 c]) (by simp [results, Try.results44, go_sem]) rfl ⟨Below.refl _ _, Or.inl ⟨by rw [Hcc.out]; exact Hc.out, by rw [Hcc.out]⟩⟩
end Go.Proofs.Ytnolidjjeknmmaa
