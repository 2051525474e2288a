/- PoolRoom is proved for every input: no condition stands ahead of it. -/
import Derived.Test.YtnolidjjeknmmaaLawKit
import Derived.Test.YtnolidjjeknmmaaNumOpen
import Derived.Test.YtnolidjjeknmmaaPoolRoomM
import Derived.Test.YtnolidjjeknmmaaPoolBestW
import Derived.Test.YtnolidjjeknmmaaPoolClk
import Derived.Test.YtnolidjjeknmmaaIntEq
namespace Go.Proofs.Ytnolidjjeknmmaa
open Go.RowKit Go.Lib

/-- What each of the four rules leaves, told alike. -/
def RoomPost (size : Int) (refs : List Int) (w : World) (e : Ending) (w' : World) : Prop :=
  Below w.heap.size w w' ∧
    ((PoolM.check size refs.length ≠ 0 ∧ e = .returned (.tuple #[.slice none 0 0, .slice none 0 0, .int .i64 (PoolM.check size refs.length)])) ∨
     (PoolM.check size refs.length = 0 ∧ ∃ hv kv hs ks, e = .returned (.tuple #[hv, kv, .int .i64 0]) ∧ w'.ownsRow w.heap.size 4 1 hv refs.length (boolVals hs) ∧
        w'.ownsRow w.heap.size 3 1 kv ks.length (intVals ks) ∧ PoolM.Good size.toNat refs hs ks))
theorem RoomPost.rule {pick : List Int → Nat → Nat} {seen : List Int → Int → List Int} {size : Int} {refs : List Int} {w w' : World} {e : Ending} (hr : PoolM.Rule pick seen) (h : PoolPost pick seen size refs w e w') : RoomPost size refs w e w' := by
  obtain ⟨hb, h1 | ⟨hc, hv, kv, he, h1, h2⟩⟩ := h
  · exact ⟨hb, Or.inl h1⟩
  · obtain ⟨s, rfl, hs, _, _⟩ := PoolM.check_ok hc
    exact ⟨hb, Or.inr ⟨hc, hv, kv, _, _, he, h1, h2, PoolM.good_rule hr _ hs refs⟩⟩
theorem RoomPost.clk {size : Int} {refs : List Int} {w w' : World} {e : Ending} (h : ClkPost size refs w e w') : RoomPost size refs w e w' := by
  obtain ⟨hb, h1 | ⟨hc, hv, kv, he, h1, h2⟩⟩ := h
  · exact ⟨hb, Or.inl h1⟩
  · obtain ⟨s, rfl, hs, _, _⟩ := PoolM.check_ok hc
    exact ⟨hb, Or.inr ⟨hc, hv, kv, _, _, he, h1, h2, PoolM.good_clk _ hs refs⟩⟩
theorem own_slice {w : World} {base e size n : Nat} {v : Value} {xs : List Value} (h : w.ownsRow base e size v n xs) : ∃ a c, v = .slice a n c := by
  rcases h.2 with ⟨rfl, rfl⟩ | ⟨g, cap, cur, rfl, _⟩
  · exact ⟨none, 0, rfl⟩
  · exact ⟨_, _, rfl⟩

def roomFns : List Nat := [48, 44, 45, 49]
theorem room_call (size : Int) (refs : List Int) (ao : Option Addr) (cap : Nat) (W : World) (h : IntsAt W ao refs) (hcap : refs.length ≤ cap) (k : Nat) (hk : k < 4) :
    ∃ f, roomFns[k]? = some f ∧ Calls Try.prog f #[.int .i64 size, .slice ao refs.length cap] W (RoomPost size refs W) ∧ (∀ args w, (callFunc f args).run Try.prog w = .ok (.enter f args) w) := by
  obtain rfl | rfl | rfl | rfl : k = 0 ∨ k = 1 ∨ k = 2 ∨ k = 3 := by omega
  · exact ⟨_, rfl, (fifo_any size refs ao cap W h).mono (fun e w' h => RoomPost.rule PoolM.rule_fifo h), enters_fn Try.func48 (by kernel_rfl) rfl⟩
  · exact ⟨_, rfl, (lru_any size refs ao cap W h).mono (fun e w' h => RoomPost.rule PoolM.rule_lru h), enters_fn Try.func44 (by kernel_rfl) rfl⟩
  · exact ⟨_, rfl, (best_any size refs ao cap W h hcap).mono (fun e w' h => RoomPost.rule (PoolM.rule_best refs) h), enters_fn Try.func45 (by kernel_rfl) rfl⟩
  · exact ⟨_, rfl, (clock_any size refs ao cap W h).mono (fun e w' h => RoomPost.clk h), enters_fn Try.func49 (by kernel_rfl) rfl⟩

/-- The law's first call. -/
def ClockX (w : World) (e : Ending) (w' : World) : Prop := ∃ hv ko kc, e = .returned (.tuple #[hv, .slice ko 2 kc, .int .i64 0]) ∧ IntsAt w' ko [3, 2] ∧ Below w.heap.size w w'
theorem clock_x (w : World) (ao : Option Addr) (h : IntsAt w ao [1, 2, 3]) : Calls Try.prog 49 #[.int .i64 2, .slice ao 3 3] w (ClockX w) := by
  refine (clock_any 2 [1, 2, 3] ao 3 w h).mono ?_
  rintro e w' ⟨hb, ⟨h1, _⟩ | ⟨_, hv, kv, rfl, _, h2⟩⟩
  · exact absurd (show PoolM.check 2 [1, 2, 3].length = 0 from by decide) h1
  · have e1 : (PoolM.clkAt (2 : Int).toNat [1, 2, 3] ([1, 2, 3] : List Int).length).fr = [3, 2] := by decide
    rw [e1] at h2
    obtain ⟨ko, kc, rfl, _, hat, _, _⟩ := IntsAt.own h2
    exact ⟨hv, ko, kc, rfl, hat, hb⟩

set_option maxRecDepth 20000 in
set_option maxHeartbeats 8000000 in
theorem poolRoom_calls (size : Int) (refs : List Int) (ao : Option Addr) (cap : Nat) (w : World) (h : IntsAt w ao refs) (hcap : refs.length ≤ cap) (hlen : refs.length ≤ 9000000000000000000) :
    Calls Try.prog 12 #[.int .i64 size, .slice ao refs.length cap] w fun e w' => e = .returned (.bool true) ∧ Below w.heap.size w w' := by
  have H := box h; have Hcap := box hcap
  have HRc := box (fun W (hW : IntsAt W ao refs) k hk => room_call size refs ao cap W hW hcap k hk)
  have HX := box (fun w ao h => clock_x w ao h)
  clear h hcap
  obtain ⟨N, HN⟩ : ∃ N, Box (refs.length = N) := ⟨_, ⟨rfl⟩⟩
  rw [HN.out] at hlen HRc ⊢
  go_enter Try.func12, Try.ntmps12
  go_wp2_with fail
  refine (HX.out _ (some ⟨w.heap.size, 0, none⟩) (Or.inr ⟨w.heap.size, 0, rfl, by simp, fun k hk => by
    rw [Nat.zero_add]
    exact (Blk.new w (intVals [1, 2, 3]) 3).cell (intVals_get hk)⟩)).mono ?_
  rintro e w1 ⟨hv, ko, kc, rfl, hat, hb1⟩
  have HB1 := box (((Below.refl _ _).alloc (Nat.le_refl _) _).trans (hb1.mono (by simp)))
  have HAt := box hat
  clear hat hb1
  go_wp2_with fail
  refine (equalInts_same [3, 2] ko (some ⟨w1.heap.size, 0, none⟩) kc 2 _ (HAt.out.below ((Below.refl _ _).alloc (Nat.le_refl _) _) (Nat.le_refl _)) (Or.inr ⟨w1.heap.size, 0, rfl, by simp, fun k hk => by
    rw [Nat.zero_add]
    exact (Blk.new w1 (intVals [3, 2]) 3).cell (intVals_get hk)⟩) (by simp)).mono ?_
  rintro e w2 ⟨rfl, n2, rfl⟩
  have HB2 : Box (Below w.heap.size w ((w1.alloc (.cells #[.int .i64 3, .int .i64 2] 3)).drewN n2)) := ⟨(HB1.out.alloc HB1.out.size _).trans ⟨rfl, rfl, rfl, Nat.le_refl _, fun _ _ => rfl⟩⟩
  generalize (w1.alloc (.cells #[.int .i64 3, .int .i64 2] 3)).drewN n2 = W2 at *
  clear HAt HB1
  go_wp2_with fail
  refine name_world (fun X => Below w.heap.size w X ∧ Blk X W2.heap.size 84 (roomFns.map fun f => .func (.func f) #[] #[])) ⟨HB2.out.alloc HB2.out.size _, Blk.new _ _ _⟩ ?_
  rintro W3 ⟨hb3, hf3⟩
  obtain ⟨Bf, HBf⟩ : ∃ x, Box (W2.heap.size = x) := ⟨_, ⟨rfl⟩⟩
  rw [HBf.out] at hf3 ⊢
  have HB3 := box hb3; have HF3 := box hf3
  clear hb3 hf3 HB2
  go_loopw [31] (fun t31 wr => ∃ k : Nat, k ≤ 4 ∧ t31 = .int .i64 (k : Int) ∧ Box (Below w.heap.size w wr) ∧ Box (Blk wr Bf 84 (roomFns.map fun f => .func (.func f) #[] #[]))) (fun t31 _ => 4 - (intOf t31).toNat)
  case atStart => exact ⟨0, by omega, rfl, HB3, HF3⟩
  case round =>
    obtain ⟨k, hk, rfl, HB, HF⟩ := hrel
    by_cases hlt : k < 4
    case neg =>
      have hk4 : k = 4 := by omega
      subst hk4
      go_wp2_with fail
      go_ret
      exact ⟨rfl, HB.out⟩
    obtain ⟨f, hf, hcall, ef⟩ := HRc.out wr (H.out.below HB.out (Nat.le_refl _)) k hlt
    have HCall := box hcall
    have c0 : wr.cell? ⟨Bf, k, none⟩ = some (.func (.func f) #[] #[]) := HF.out.cell (by rw [List.getElem?_map, hf]; rfl)
    have hk2 : (k : Int) < 4 := by omega
    clear hf hcall
    go_wp2_with fail
    refine HCall.out.mono ?_
    rintro e w4 ⟨hb4, hcase⟩
    have HB4 := box (below_tr HB.out hb4)
    have HF4 := box (HF.out.after hb4)
    clear hb4 HCall c0
    rcases hcase with ⟨hne, rfl⟩ | ⟨hok, hv, kv, hs, ks, rfl, hoh, hok2, hg⟩
    · obtain ⟨c, Hcc⟩ : ∃ c, Box (PoolM.check size refs.length = c) := ⟨_, ⟨rfl⟩⟩
      rw [Hcc.out] at hne ⊢
      have d0 : (c == 0) = false := by simpa using hne
      have d1 : (c != 0) = true := by simpa using hne
      clear hne
      go_wp2_with fail
      go_ret
      exact ⟨rfl, HB4.out⟩
    obtain ⟨sz, HSz, hs1, hs50, hN2⟩ := PoolM.check_ok hok
    have HG := box hg
    have hle := hg.le
    rw [HSz, Int.toNat_natCast] at hle
    obtain ⟨ho, hc, rfl⟩ := own_slice hoh
    obtain ⟨ko, kc, rfl, _, hat, _, hkc⟩ := IntsAt.own hok2
    have HAt := box hat
    have HRf : Box (IntsAt w4 ao refs) := ⟨H.out.below HB4.out (Nat.le_refl _)⟩
    rw [HN.out] at hN2 ⊢
    subst HSz
    obtain ⟨M, HM⟩ : ∃ M, Box (ks.length = M) := ⟨_, ⟨rfl⟩⟩
    rw [HM.out] at hle hkc ⊢
    have HCr := box (fun x => contains_ints refs x ao cap w4 HRf.out (by have := HN.out; omega))
    rw [HN.out] at HCr
    clear hok hg hoh hok2 hat hs1
    go_wp2_with fail
    go_loopw [53] (fun t53 wr => ∃ j : Nat, j ≤ M ∧ t53 = .int .i64 (j : Int) ∧ wr = w4) (fun t53 _ => M - (intOf t53).toNat)
    case atStart => exact ⟨0, Nat.zero_le _, rfl, rfl⟩
    case round =>
      obtain ⟨j, hj, rfl, rfl⟩ := hrel
      by_cases hjl : j < M
      · obtain ⟨b, off, rfl, hb, hrow⟩ := HAt.out.resolve_left (by intro h; have := HM.out; rw [h] at this; simp at this; omega)
        have hjk : j < ks.length := by have := HM.out; omega
        have cj := hrow j hjk
        have hmem : ks[j] ∈ refs := HG.out.sub _ (List.getElem_mem hjk)
        have hnot : ks[j] ∉ ks.take j := by
          intro hm
          obtain ⟨i, hi, he⟩ := List.mem_iff_getElem.1 hm
          rw [List.length_take] at hi
          rw [List.getElem_take] at he
          have hnd := HG.out.nodup
          rw [List.nodup_iff_pairwise_ne, List.pairwise_iff_getElem] at hnd
          exact hnd i j (by omega) hjk (by omega) he
        have htl : (ks.take j).length = j := by rw [List.length_take]; omega
        have HAj : IntsAt wr (some ⟨b, off, none⟩) (ks.take j) := Or.inr ⟨b, off, rfl, hb, fun i hi => by
          rw [List.getElem_take]; exact hrow i (by rw [htl] at hi; omega)⟩
        have HC2 := box (contains_ints (ks.take j) ks[j] (some ⟨b, off, none⟩) kc wr HAj (by omega))
        rw [htl, decide_eq_false hnot] at HC2
        have HC1 := box (HCr.out ks[j])
        rw [decide_eq_true hmem] at HC1
        generalize ks[j] = p at *
        have hjc : (j : Int) ≤ (kc : Int) := by omega
        clear hrow hmem hnot htl HAj
        go_wp2_with fail
        refine HC1.out.mono ?_
        rintro e w5 ⟨rfl, rfl⟩
        go_wp2_with fail
        refine HC2.out.mono ?_
        rintro e w5 ⟨rfl, rfl⟩
        go_wp2_with fail
        go_roundw
        case rel => exact ⟨j + 1, hjl, by go_num, by simp⟩
        case measure => simp [intOf]; omega
      have hjM : j = M := by omega
      subst hjM
      have d1 : decide (sz < j) = false := by simp; omega
      have q0 : ((N : Int) != (N : Int)) = false := by simp
      by_cases hN0 : 0 < N
      · have d2 : decide (0 < N) = true := decide_eq_true hN0
        obtain ⟨b, off, rfl, hb, hrow⟩ := HRf.out.resolve_left (by intro h; have := HN.out; rw [h] at this; simp at this; omega)
        have hlast := HG.out.last (by have := HN.out; omega)
        have c1 := hrow (N - 1) (by have := HN.out; omega)
        rw [← pool_getD (by have := HN.out; omega)] at c1
        rw [HN.out] at hlast
        have HC2 := box (contains_ints ks (refs.getD (N - 1) 0) ko kc wr HAt.out (by have := HM.out; omega))
        rw [HM.out, decide_eq_true hlast] at HC2
        generalize refs.getD (N - 1) 0 = p at *
        have w1' : IntKind.i64.wrap ((N : Int) - 1) = ((N - 1 : Nat) : Int) := by rw [IntWalk.i64_in _ (by omega)]; omega
        obtain ⟨L, HL⟩ : ∃ L, Box (N - 1 = L) := ⟨_, ⟨rfl⟩⟩
        rw [HL.out] at c1 w1'
        have hL2 : L < N := by have := HL.out; omega
        clear hrow hlast
        go_wp2_with fail
        refine HC2.out.mono ?_
        rintro e w5 ⟨rfl, rfl⟩
        go_wp2_with fail
        go_roundw
        case rel => exact ⟨k + 1, by omega, by go_num, HB4, HF4⟩
        case measure => simp [intOf]; omega
      · have d2 : decide (0 < N) = false := decide_eq_false hN0
        go_wp2_with fail
        go_roundw
        case rel => exact ⟨k + 1, by omega, by go_num, HB4, HF4⟩
        case measure => simp [intOf]; omega
namespace lawPoolRoom
open Go.ChangeShapes Go.WideShapes Go.ChangeAt Go.RowKit Go.ChangeMaps

set_option maxRecDepth 100000 in
theorem lifted (os : Os) (started : os.Started) (H : Type) (enc : TypeId × Value → H) :
    ReturnsInHanded {} Try.checked os 12 .any (Rows.poolRoomSpec.pre6 enc Try.prog Try.f12 [] false) (Rows.poolRoomSpec.post enc Try.prog Try.f12 false true false false) := by
  refine LawKit.law_lifted started (by kernel_rfl) Try.func12 rfl
    (fun ds h => by
      match ds, h with
      | [_, _], _ => rfl)
    rfl Try.underlying4 (by intro t ht; exact of_decide_eq_true (p := Try.prog.readableRec t = true ∧ t < Try.prog.types.size) (by revert t ht; decide +kernel))
    (ChangeSpec.witness6 (enc := enc) (C := Try.checked) false ⟨#[], #[.int .i64 0, .slice none 0 0], []⟩ 8 (by kernel_rfl) (by kernel_rfl) (by kernel_rfl) (by kernel_rfl)) ?_
  intro W base args ds ps hval hA hsz hlt hfz
  have hA' := hA
  rw [Try.params12] at hA hval
  obtain ⟨v0, vs0, d0, ds0, p0, q0, hargs, rfl, rfl, h0, r0⟩ := trodAll_cons hA
  obtain ⟨v1, vs1, d1, ds1, p1, q1, rfl, rfl, rfl, h1, r1⟩ := trodAll_cons r0
  obtain ⟨rfl, rfl, rfl⟩ := trodAll_nil r1
  obtain rfl : args = #[v0, v1] := by cases args; simp_all
  go_open 0 size
  obtain ⟨ao, cap, l, rfl, hnil, hat, hcap, hcap8, _⟩ := open_numbers (hval 1 _ _ rfl rfl) h1 (Open.weights_bound hsz (j := 1) (by rw [Try.params12]; rfl) rfl)
  refine (poolRoom_calls size l ao cap W hat hcap (by omega)).mono ?_
  rintro e W' ⟨rfl, hb⟩
  exact ⟨rfl, hb⟩

theorem proved : Rows.PoolRoomSaid :=
  OpenClaim.holds_of_wide 12 Try.f12 rfl rfl rfl rfl rfl rfl rfl ⟨rfl, rfl, rfl, rfl, rfl⟩ rfl rfl rfl rfl rfl (by kernel_rfl) Try.func12 (by kernel_rfl)
    (of_decide_eq_true (by kernel_rfl)) (by unfold Func.isWrapper; first | (rw [if_pos (by decide +kernel)]; kernel_rfl) | (rw [if_neg (by decide +kernel)]; exact ⟨rfl, rfl⟩))
    (fun os started H enc _ => lifted os started H enc)
end lawPoolRoom
end Go.Proofs.Ytnolidjjeknmmaa
