/- pool.Best: what it computes. -/
import Derived.Test.YtnolidjjeknmmaaPoolFL
import Derived.Deep.QuietTactic
import Derived.BigQuiet
import Derived.Laws.EntriesVeiled
namespace Go.Proofs.Ytnolidjjeknmmaa
open Go.RowKit Go.Lib

set_option maxRecDepth 20000 in
set_option maxHeartbeats 2000000 in
theorem next_any (refs : List Int) (x : Int) (i B : Nat) (ao : Option Addr) (cap : Nat) (W : World) (h : IntsAt W ao refs) (hc : W.cell? ⟨B, 0, none⟩ = some (.slice ao refs.length cap)) (hi : i < refs.length) (hcap : refs.length ≤ cap) (hn : refs.length ≤ 2000) :
    Calls Try.prog 75 #[.int .i64 x, .int .i64 (i : Int), .pointer (some ⟨B, 0, none⟩)] W fun e w' => e = .returned (.int .i64 (PoolM.next refs x i : Nat)) ∧ w' = W := by
  obtain ⟨b, off, rfl, hb, hrow⟩ := h.resolve_left (by intro h; rw [h] at hi; simp at hi)
  have HD : Box (IntsAt W (some ⟨b, off + i, none⟩) (refs.drop i)) := ⟨Or.inr ⟨b, off + i, rfl, hb, fun k hk => by
    have hk' : i + k < refs.length := by rw [List.length_drop] at hk; omega
    rw [Nat.add_assoc, hrow (i + k) hk', List.getElem_drop]⟩⟩
  have hl : (refs.drop i).length = refs.length - i := List.length_drop ..
  have HI := box (index_ints (refs.drop i) x (some ⟨b, off + i, none⟩) (cap - i) W HD.out (by omega))
  rw [hl] at HI
  have HNx : Box (PoolM.next refs x i = if (refs.drop i).findIdx (fun y => x == y) < refs.length - i then i + (refs.drop i).findIdx (fun y => x == y) else refs.length) := ⟨by unfold PoolM.next; rw [hl]⟩
  have HIx : Box (IntsM.idx (refs.drop i) x = if (refs.drop i).findIdx (fun y => x == y) < refs.length - i then (((refs.drop i).findIdx (fun y => x == y) : Nat) : Int) else -1) := ⟨by unfold IntsM.idx IntsM.find; rw [hl]⟩
  generalize (refs.drop i).findIdx (fun y => x == y) = k at *
  obtain ⟨N, HN⟩ : ∃ N, Box (refs.length = N) := ⟨_, ⟨rfl⟩⟩
  rw [HN.out] at hc hi hcap hn HI HNx HIx
  clear h hrow hl HD
  have c1 : (i : Int) ≤ (N : Int) := by omega
  have c2 : (i : Int) ≤ (cap : Int) := by omega
  have c3 : cap ≠ i := by omega
  by_cases hk : k < N - i
  · rw [if_pos hk] at HNx HIx
    rw [HIx.out] at HI
    rw [HNx.out]
    have d0 : decide ((0 : Int) ≤ (k : Int)) = true := by simp
    have w1' : IntKind.i64.wrap ((i : Int) + (k : Int)) = (i : Int) + (k : Int) := IntWalk.i64_in _ (by omega)
    go_enter Try.func75, Try.ntmps75
    go_wp2_with fail
    refine HI.out.mono ?_
    rintro e w1 ⟨rfl, rfl⟩
    go_wp2_with fail
    go_ret
    exact ⟨by rw [Int.natCast_add]; rfl, rfl⟩
  · rw [if_neg hk] at HNx HIx
    rw [HIx.out] at HI
    rw [HNx.out]
    go_enter Try.func75, Try.ntmps75
    go_wp2_with fail
    refine HI.out.mono ?_
    rintro e w1 ⟨rfl, rfl⟩
    go_wp2_with fail
    go_ret
    exact ⟨rfl, rfl⟩

theorem pool_getD {l : List Int} {i : Nat} (h : i < l.length) : l.getD i 0 = l[i] := by
  rw [List.getD_eq_getElem?_getD, List.getElem?_eq_getElem h]; rfl

set_option maxRecDepth 20000 in
set_option maxHeartbeats 4000000 in
theorem far_any (refs l : List Int) (i B8 B3 : Nat) (ao ko : Option Addr) (cap kc : Nat) (W : World) (h : IntsAt W ao refs) (hk : IntsAt W ko l) (h8 : W.cell? ⟨B8, 0, none⟩ = some (.func (.func 75) #[] #[.pointer (some ⟨B3, 0, none⟩)]))
    (h3 : W.cell? ⟨B3, 0, none⟩ = some (.slice ao refs.length cap)) (hi : i < refs.length) (hcap : refs.length ≤ cap) (hn : refs.length ≤ 2000) (h0 : 0 < l.length) (hl : l.length ≤ 50) :
    Calls Try.prog 76 #[.slice ko l.length kc, .int .i64 (i : Int), .pointer (some ⟨B8, 0, none⟩)] W fun e w' => e = .returned (.int .i64 (PoolM.farthest refs l i : Nat)) ∧ Below W.heap.size W w' := by
  have eg := enters_fn Try.func75 (by kernel_rfl) rfl
  have hB3 : B3 < W.heap.size := World.block_lt_of_cell? W ⟨B3, 0, none⟩ h3
  have hB8 : B8 < W.heap.size := World.block_lt_of_cell? W ⟨B8, 0, none⟩ h8
  have HNx : Box (∀ wr, Below W.heap.size W wr → ∀ (x : Int) (m : Nat), Calls Try.prog 75 #[.int .i64 x, .int .i64 (i : Int), .pointer (some ⟨B3, 0, none⟩)] (wr.drewN m) fun e w' => e = .returned (.int .i64 (PoolM.next refs x i : Nat)) ∧ w' = wr.drewN m) :=
    ⟨fun wr hb x m => next_any refs x i B3 ao cap (wr.drewN m) (show IntsAt wr ao refs from h.below hb (Nat.le_refl _)) ((hb.cell (p := ⟨B3, 0, none⟩) hB3).trans h3) hi hcap hn⟩
  have H8 := box (fun wr (hb : Below W.heap.size W wr) => (hb.cell (p := ⟨B8, 0, none⟩) hB8).trans h8)
  have HR := box hk
  have HF : Box (PoolM.farthest refs l i = PoolM.far refs l i l.length) := ⟨rfl⟩
  have hi2 : i < 2000 := by omega
  clear h hk h3 h8 hi hcap hn hB3 hB8
  go_enter Try.func76, Try.ntmps76
  go_wp2_with fail
  go_loopw [6, 10] (fun t6 t10 wr => ∃ k : Nat, Box (Below W.heap.size W wr) ∧ k ≤ l.length ∧ t10 = .int .i64 (k : Int) ∧ t6 = .int .i64 (PoolM.far refs l i k : Nat)) (fun _ t10 _ => l.length - (intOf t10).toNat)
  case atStart => exact ⟨0, ⟨Below.refl _ _⟩, Nat.zero_le _, rfl, rfl⟩
  case round =>
    obtain ⟨k, HB, hk, rfl, rfl⟩ := hrel
    by_cases hlt : k < l.length
    case neg =>
      have hkn : k = l.length := by omega
      subst hkn
      go_wp2_with fail
      go_ret
      exact ⟨by rw [HF.out]; rfl, HB.out⟩
    obtain ⟨b, off, rfl, hb, hrow⟩ := (HR.out.below HB.out (Nat.le_refl _)).resolve_left (by intro h; rw [h] at h0; simp at h0)
    have h8 := H8.out wr HB.out
    have hfl := PoolM.far_lt refs l i k
    have c0 := hrow k hlt
    have hf2 : PoolM.far refs l i k < l.length := by omega
    have c1 := hrow (PoolM.far refs l i k) hf2
    rw [← pool_getD hlt] at c0
    rw [← pool_getD hf2] at c1
    have HS : Box (PoolM.far refs l i (k + 1) = if PoolM.next refs (l.getD (PoolM.far refs l i k) 0) i < PoolM.next refs (l.getD k 0) i then k else PoolM.far refs l i k) := ⟨rfl⟩
    obtain ⟨p, HP⟩ : ∃ p, Box (PoolM.far refs l i k = p) := ⟨_, ⟨rfl⟩⟩
    obtain ⟨y, HY⟩ : ∃ p, Box (l.getD k 0 = p) := ⟨_, ⟨rfl⟩⟩
    rw [HP.out] at c1 HS hf2 ⊢
    obtain ⟨z, HZ⟩ : ∃ z, Box (l.getD p 0 = z) := ⟨_, ⟨rfl⟩⟩
    rw [HY.out] at c0 HS
    rw [HZ.out] at c1 HS
    clear hfl hrow
    have HN1 := box (HNx.out wr HB.out)
    by_cases hgt : PoolM.next refs z i < PoolM.next refs y i
    · have d0 : decide (PoolM.next refs z i < PoolM.next refs y i) = true := decide_eq_true hgt
      rw [if_pos hgt] at HS
      have HSb := box HS.out
      clear HS hgt
      go_upto_region 5 with (fail)
      go_quiet (first | (go_at_call 75; exact Calls.quiet_of_same (HN1.out _ _)))
      have hbq : Below W.heap.size W (wr.drewN nq) := HB.out.trans ⟨rfl, rfl, rfl, Nat.le_refl _, fun _ _ => rfl⟩
      have HBq := box hbq
      clear hbq
      go_wp2_with fail
      go_roundw
      case rel => exact ⟨k + 1, HBq, hlt, by go_num, by rw [HSb.out]⟩
      case measure => simp [intOf]; omega
    · have d0 : decide (PoolM.next refs z i < PoolM.next refs y i) = false := decide_eq_false hgt
      rw [if_neg hgt] at HS
      have HSb := box HS.out
      clear HS hgt
      go_upto_region 5 with (fail)
      go_quiet (first | (go_at_call 75; exact Calls.quiet_of_same (HN1.out _ _)))
      have hbq : Below W.heap.size W (wr.drewN nq) := HB.out.trans ⟨rfl, rfl, rfl, Nat.le_refl _, fun _ _ => rfl⟩
      have HBq := box hbq
      clear hbq
      go_wp2_with fail
      go_roundw
      case rel => exact ⟨k + 1, HBq, hlt, by go_num, by rw [HSb.out]⟩
      case measure => simp [intOf]; omega

theorem best_ok (refs : List Int) (B8 B3 : Nat) (ao : Option Addr) (cap : Nat) (W : World) (h : IntsAt W ao refs) (h8 : W.cell? ⟨B8, 0, none⟩ = some (.func (.func 75) #[] #[.pointer (some ⟨B3, 0, none⟩)]))
    (h3 : W.cell? ⟨B3, 0, none⟩ = some (.slice ao refs.length cap)) (hcap : refs.length ≤ cap) (hn : refs.length ≤ 2000) : PickOk 76 #[.pointer (some ⟨B8, 0, none⟩)] (PoolM.farthest refs) refs.length W := by
  intro V l ko kc i hb hk h0 hl hi
  have hB3 : B3 < W.heap.size := World.block_lt_of_cell? W ⟨B3, 0, none⟩ h3
  have hB8 : B8 < W.heap.size := World.block_lt_of_cell? W ⟨B8, 0, none⟩ h8
  exact far_any refs l i B8 B3 ao ko cap kc V (h.below hb (Nat.le_refl _)) hk ((hb.cell (p := ⟨B8, 0, none⟩) hB8).trans h8) ((hb.cell (p := ⟨B3, 0, none⟩) hB3).trans h3) hi hcap hn h0 hl

set_option maxRecDepth 20000 in
set_option maxHeartbeats 2000000 in
theorem best_any (size : Int) (refs : List Int) (ao : Option Addr) (cap : Nat) (w : World) (h : IntsAt w ao refs) (hcap : refs.length ≤ cap) :
    Calls Try.prog 45 #[.int .i64 size, .slice ao refs.length cap] w (PoolPost (PoolM.farthest refs) PoolM.same size refs w) := by
  have HC := box (fun w => poolCheck_any size refs.length ao cap w)
  by_cases hc : PoolM.check size refs.length = 0
  · obtain ⟨s, rfl, h1, h2, h3⟩ := PoolM.check_ok hc
    have HR : Box (∀ (W : World) (B8 B3 : Nat), Below w.heap.size w W → W.cell? ⟨B8, 0, none⟩ = some (.func (.func 75) #[] #[.pointer (some ⟨B3, 0, none⟩)]) → W.cell? ⟨B3, 0, none⟩ = some (.slice ao refs.length cap) →
        Calls Try.prog 73 #[.int .i64 (s : Int), .slice ao refs.length cap, .func (.func 76) #[] #[.pointer (some ⟨B8, 0, none⟩)], .func (.func 77) #[] #[]] W (RunPost (PoolM.farthest refs) PoolM.same s refs W)) :=
      ⟨fun W B8 B3 hb h8 h33 => poolRun_any s refs _ _ _ _ (PoolM.farthest refs) PoolM.same ao cap W (h.below hb (Nat.le_refl _)) h1 h2 h3 (PoolM.rule_best refs) (best_ok refs B8 B3 ao cap W (h.below hb (Nat.le_refl _)) h8 h33 hcap h3) (same_ok _)
      (enters_fn Try.func76 (by kernel_rfl) rfl) (enters_fn Try.func77 (by kernel_rfl) rfl)⟩
    have Hc := box hc
    rw [hc] at HC
    obtain ⟨N, HN⟩ : ∃ N, Box (refs.length = N) := ⟨_, ⟨rfl⟩⟩
    rw [HN.out] at HC HR ⊢
    clear hc h hcap
    go_enter Try.func45, Try.ntmps45
    go_wp2_with fail
    refine (HC.out _).mono ?_
    rintro e w1 ⟨rfl, rfl⟩
    go_upto_region 6 with (fail)
    refine name_world (fun W => Below w.heap.size w W ∧ Blk W (w.heap.size + 1) 127 [.func (.func 75) #[] #[.pointer (some ⟨w.heap.size, 0, none⟩)]] ∧ Blk W w.heap.size 25 [.slice ao N cap])
      ⟨((Below.refl _ _).alloc (Nat.le_refl _) _).alloc (by simp) _, Blk.new' (by simp) _ _, (Blk.new _ _ _).alloc _⟩ ?_
    rintro W ⟨hbW, hk8, hk3⟩
    have h8 := hk8.cell (i := 0) rfl
    have h3 := hk3.cell (i := 0) rfl
    have HB := box hbW
    have HRW := box (HR.out W (w.heap.size + 1) w.heap.size hbW h8 h3)
    clear hbW
    go_wp2_with fail
    refine HRW.out.mono ?_
    rintro e w2 ⟨hv, kv, rfl, h1, h2, h3⟩
    have H1 := box (ownsRow_mono h1 HB.out.size); have H2 := box (ownsRow_mono h2 HB.out.size); have H3 := box (below_tr HB.out h3)
    clear h1 h2 h3
    go_wp2_with fail
    refine bodyPost_ret (v := .tuple #[hv, kv, .int .i64 0]) (by simp [results, Try.results45, go_sem]) rfl ⟨H3.out, Or.inr ⟨Hc.out, hv, kv, rfl, H1.out, H2.out⟩⟩
  · obtain ⟨c, Hcc⟩ : ∃ c, Box (PoolM.check size refs.length = c) := ⟨_, ⟨rfl⟩⟩
    rw [Hcc.out] at HC hc
    have d0 : (c == 0) = false := by simpa using hc
    have d1 : (c != 0) = true := by simpa using hc
    have Hc := box hc
    clear hc h hcap
    go_enter Try.func45, Try.ntmps45
    go_wp2_with fail
    refine (HC.out _).mono ?_
    rintro e w1 ⟨rfl, rfl⟩
    go_wp2_with fail
    refine bodyPost_ret (v := .tuple #[.slice none 0 0, .slice none 0 0, .int .i64 c]) (by simp [results, Try.results45, go_sem]) rfl ⟨(Below.refl _ _).alloc (Nat.le_refl _) _, Or.inl ⟨by rw [Hcc.out]; exact Hc.out, by rw [Hcc.out]⟩⟩
end Go.Proofs.Ytnolidjjeknmmaa
