/- PoolStack is proved for every input: no condition stands ahead of it. -/
import Derived.Test.YtnolidjjeknmmaaLawKit
import Derived.Test.YtnolidjjeknmmaaNumOpen
import Derived.Test.YtnolidjjeknmmaaPoolHits
import Derived.Test.YtnolidjjeknmmaaPoolStk
import Derived.Test.YtnolidjjeknmmaaIntEq
namespace Go.Proofs.Ytnolidjjeknmmaa
open Go.RowKit Go.Lib

def LruX (w : World) (e : Ending) (w' : World) : Prop := ∃ ho hc ko kc, e = .returned (.tuple #[.slice ho 4 hc, .slice ko 2 kc, .int .i64 0]) ∧ IntsAt w' ko [1, 3] ∧ Below w.heap.size w w'
theorem lru_x (w : World) (ao : Option Addr) (h : IntsAt w ao [1, 2, 1, 3]) : Calls Try.prog 44 #[.int .i64 2, .slice ao 4 4] w (LruX w) := by
  refine (lru_any 2 [1, 2, 1, 3] ao 4 w h).mono ?_
  intro e w' hp
  obtain ⟨ho, hc, ko, kc, h1, _, _, h3, _, h4⟩ := (show GotOk 4 [false, false, true, false] [1, 3] w e w' from hp.ok (by decide))
  exact ⟨ho, hc, ko, kc, h1, h3, h4⟩
def GotAny (w : World) (e : Ending) (w' : World) : Prop := ∃ hv kv c, e = .returned (.tuple #[hv, kv, .int .i64 c]) ∧ Below w.heap.size w w'
theorem PoolPost.any {pick : List Int → Nat → Nat} {seen : List Int → Int → List Int} {size : Int} {refs : List Int} {w w' : World} {e : Ending} (h : PoolPost pick seen size refs w e w') : GotAny w e w' := by
  obtain ⟨hb, ⟨_, h1⟩ | ⟨_, hv, kv, h1, _⟩⟩ := h
  · exact ⟨_, _, _, h1, hb⟩
  · exact ⟨_, _, _, h1, hb⟩

set_option maxRecDepth 20000 in
set_option maxHeartbeats 8000000 in
theorem poolStack_calls (a b lo hi : Int) (hlo : (if b < a then b else a) = lo) (hhi : (if a < b then b else a) = hi) (hle : lo ≤ hi) (refs : List Int) (ao : Option Addr) (cap : Nat) (w : World) (h : IntsAt w ao refs) (hcap : refs.length ≤ cap) :
    Calls Try.prog 9 #[.int .i64 a, .int .i64 b, .slice ao refs.length cap] w fun e w' => e = .returned (.bool true) ∧ Below w.heap.size w w' := by
  have HX := box (fun w ao h => lru_x w ao h)
  have HCb := box (fun W (hb : Below w.heap.size w W) size => best_any size refs ao cap W (h.below hb (Nat.le_refl _)) hcap)
  have HCl := box (fun W (hb : Below w.heap.size w W) size => lru_any size refs ao cap W (h.below hb (Nat.le_refl _)))
  clear h hcap
  go_enter Try.func9, Try.ntmps9
  go_wp2_with fail
  refine (HX.out _ (some ⟨w.heap.size, 0, none⟩) (Or.inr ⟨w.heap.size, 0, rfl, by simp, fun k hk => by
    rw [Nat.zero_add]
    exact (Blk.new w (intVals [1, 2, 1, 3]) 3).cell (intVals_get hk)⟩)).mono ?_
  rintro e w1 ⟨ho, hc, ko, kc, rfl, hat, hb1⟩
  have HB1 := box (((Below.refl _ _).alloc (Nat.le_refl _) _).trans (hb1.mono (by simp)))
  have HAt := box hat
  clear hat hb1
  go_wp2_with fail
  refine (equalInts_same [1, 3] ko (some ⟨w1.heap.size, 0, none⟩) kc 2 _ (HAt.out.below ((Below.refl _ _).alloc (Nat.le_refl _) _) (Nat.le_refl _)) (Or.inr ⟨w1.heap.size, 0, rfl, by simp, fun k hk => by
    rw [Nat.zero_add]
    exact (Blk.new w1 (intVals [1, 3]) 3).cell (intVals_get hk)⟩) (by simp)).mono ?_
  rintro e w3 ⟨rfl, n2, rfl⟩
  have HB3 : Box (Below w.heap.size w ((w1.alloc (.cells #[.int .i64 1, .int .i64 3] 3)).drewN n2)) := ⟨(HB1.out.alloc HB1.out.size _).trans ⟨rfl, rfl, rfl, Nat.le_refl _, fun _ _ => rfl⟩⟩
  generalize (w1.alloc (.cells #[.int .i64 1, .int .i64 3] 3)).drewN n2 = W3 at *
  clear HAt HB1
  go_wp2_with fail
  by_cases hchk : PoolM.check lo refs.length = 0
  case neg =>
    have HL1 := box (fun W hb => (HCl.out W hb lo).mono (fun e w' h => PoolPost.err hchk h))
    have HL2 := box (fun W hb => (HCl.out W hb hi).mono (fun e w' h => PoolPost.any h))
    have HB1 := box (fun W hb => (HCb.out W hb lo).mono (fun e w' h => PoolPost.any h))
    have HB2 := box (fun W hb => (HCb.out W hb hi).mono (fun e w' h => PoolPost.any h))
    obtain ⟨c, Hcc⟩ : ∃ c, Box (PoolM.check lo refs.length = c) := ⟨_, ⟨rfl⟩⟩
    obtain ⟨N, HN⟩ : ∃ N, Box (refs.length = N) := ⟨_, ⟨rfl⟩⟩
    rw [Hcc.out] at HL1 hchk
    rw [HN.out] at HL1 HL2 HB1 HB2 ⊢
    have d0 : (c == 0) = false := by simpa using hchk
    have d1 : (c != 0) = true := by simpa using hchk
    clear hchk HCb HCl
    refine (HL1.out _ HB3.out).mono ?_
    rintro e w4 ⟨rfl, hb4⟩
    have HB4 := box (below_tr HB3.out hb4)
    clear hb4
    go_wp2_with fail
    refine (HL2.out _ HB4.out).mono ?_
    rintro e w5 ⟨v5, v5', c5, rfl, hb5⟩
    have HB5 := box (below_tr HB4.out hb5)
    clear hb5
    go_wp2_with fail
    refine (HB1.out _ HB5.out).mono ?_
    rintro e w6 ⟨v6, v6', c6, rfl, hb6⟩
    have HB6 := box (below_tr HB5.out hb6)
    clear hb6
    go_wp2_with fail
    refine (HB2.out _ HB6.out).mono ?_
    rintro e w7 ⟨v7, v7', c7, rfl, hb7⟩
    have HB7 := box (below_tr HB6.out hb7)
    clear hb7
    go_wp2_with fail
    go_ret
    exact ⟨rfl, HB7.out⟩
  by_cases hchk2 : PoolM.check hi refs.length = 0
  case neg =>
    have HL1 := box (fun W hb => (HCl.out W hb lo).mono (fun e w' h => PoolPost.ok hchk h))
    have HL2 := box (fun W hb => (HCl.out W hb hi).mono (fun e w' h => PoolPost.err hchk2 h))
    have HB1 := box (fun W hb => (HCb.out W hb lo).mono (fun e w' h => PoolPost.any h))
    have HB2 := box (fun W hb => (HCb.out W hb hi).mono (fun e w' h => PoolPost.any h))
    obtain ⟨c, Hcc⟩ : ∃ c, Box (PoolM.check hi refs.length = c) := ⟨_, ⟨rfl⟩⟩
    generalize PoolM.hits PoolM.oldest PoolM.touch lo.toNat refs refs.length = xl at *
    generalize PoolM.kept PoolM.oldest PoolM.touch lo.toNat refs refs.length = kl at *
    obtain ⟨N, HN⟩ : ∃ N, Box (refs.length = N) := ⟨_, ⟨rfl⟩⟩
    rw [Hcc.out] at HL2 hchk2
    rw [HN.out] at HL1 HL2 HB1 HB2 ⊢
    have d0 : (c == 0) = false := by simpa using hchk2
    have d1 : (c != 0) = true := by simpa using hchk2
    clear hchk hchk2 HCb HCl
    refine (HL1.out _ HB3.out).mono ?_
    rintro e w4 ⟨v4, c4, v4', c4', rfl, _, _, _, _, hb4⟩
    have HB4 := box (below_tr HB3.out hb4)
    clear hb4
    go_wp2_with fail
    refine (HL2.out _ HB4.out).mono ?_
    rintro e w5 ⟨rfl, hb5⟩
    have HB5 := box (below_tr HB4.out hb5)
    clear hb5
    go_wp2_with fail
    refine (HB1.out _ HB5.out).mono ?_
    rintro e w6 ⟨v6, v6', c6, rfl, hb6⟩
    have HB6 := box (below_tr HB5.out hb6)
    clear hb6
    go_wp2_with fail
    refine (HB2.out _ HB6.out).mono ?_
    rintro e w7 ⟨v7, v7', c7, rfl, hb7⟩
    have HB7 := box (below_tr HB6.out hb7)
    clear hb7
    go_wp2_with fail
    go_ret
    exact ⟨rfl, HB7.out⟩
  obtain ⟨s, rfl, h1, h50, hn⟩ := PoolM.check_ok hchk
  obtain ⟨s', rfl, h1', h50', _⟩ := PoolM.check_ok hchk2
  have HL1 := box (fun W hb => (HCl.out W hb _).mono (fun e w' h => PoolPost.ok hchk h))
  have HL2 := box (fun W hb => (HCl.out W hb _).mono (fun e w' h => PoolPost.ok hchk2 h))
  have HP1 := box (fun W hb => (HCb.out W hb _).mono (fun e w' h => PoolPost.ok hchk h))
  have HP2 := box (fun W hb => (HCb.out W hb _).mono (fun e w' h => PoolPost.ok hchk2 h))
  simp only [Int.toNat_natCast] at HL1 HL2 HP1 HP2
  have hss : s ≤ s' := by omega
  have m1 := PoolM.best_most s' h1' refs _ (PoolM.kept_sched (PoolM.rule_best refs) h1 hss refs)
  rw [← PoolM.cnt_hits] at m1
  have Hhit : Box (∀ i, i < refs.length → (PoolM.hits PoolM.oldest PoolM.touch s refs refs.length).getD i false = true → (PoolM.hits PoolM.oldest PoolM.touch s' refs refs.length).getD i false = true) := ⟨fun i hi h => by
    unfold PoolM.hits at h ⊢
    rw [List.getD_eq_getElem?_getD, List.getElem?_map, List.getElem?_range hi] at h ⊢
    simp only [Option.map_some, Option.getD_some, decide_eq_true_eq] at h ⊢
    exact PoolM.lru_hit h1 hss refs i (by omega) _ h⟩
  have hktl := PoolM.kept_len PoolM.rule_lru s' h1' refs refs.length
  obtain ⟨X, hXe, _⟩ := PoolM.lru_stack h1 hss refs refs.length (Nat.le_refl _)
  have Hne : Box (0 < refs.length → 0 < (PoolM.kept PoolM.oldest PoolM.touch s refs refs.length).length) := ⟨fun h => List.length_pos_of_mem ((PoolM.kept_inv PoolM.rule_lru s refs refs.length (Nat.le_refl _)).last h)⟩
  have Hnil : Box (refs.length = 0 → PoolM.kept PoolM.oldest PoolM.touch s' refs refs.length = []) := ⟨fun h => by rw [h]; rfl⟩
  generalize PoolM.hits (PoolM.farthest refs) PoolM.same s refs refs.length = xp at *
  generalize PoolM.hits (PoolM.farthest refs) PoolM.same s' refs refs.length = xq at *
  generalize PoolM.hits PoolM.oldest PoolM.touch s refs refs.length = xx at *
  generalize PoolM.hits PoolM.oldest PoolM.touch s' refs refs.length = xy at *
  generalize PoolM.kept (PoolM.farthest refs) PoolM.same s refs refs.length = kp at *
  generalize PoolM.kept (PoolM.farthest refs) PoolM.same s' refs refs.length = kq at *
  generalize PoolM.kept PoolM.oldest PoolM.touch s refs refs.length = ks at *
  generalize PoolM.kept PoolM.oldest PoolM.touch s' refs refs.length = kt at *
  obtain ⟨N, HN⟩ : ∃ N, Box (refs.length = N) := ⟨_, ⟨rfl⟩⟩
  rw [HN.out] at HL1 HL2 HP1 HP2 hn Hhit Hne Hnil ⊢
  have M1 := box m1; have HXe := box hXe; have HKtl := box hktl
  clear hchk hchk2 HCb HCl m1 hXe hktl
  refine (HL1.out _ HB3.out).mono ?_
  rintro e w4 ⟨hox, hcx, kos, kcs, rfl, hx4, hl4, ks4, kc4, hb4⟩
  have HB4 := box (below_tr HB3.out hb4)
  have X4 := box hx4; have L4 := box hl4; have K4 := box ks4; have C4 := box kc4
  clear hb4 hx4 hl4 ks4 kc4
  go_wp2_with fail
  refine (HL2.out _ HB4.out).mono ?_
  rintro e w5 ⟨hoy, hcy, kot, kct, rfl, hx5, hl5, ks5, kc5, hb5⟩
  have HB5 := box (below_tr HB4.out hb5)
  have X4 := box (X4.out.below hb5 (Nat.le_refl _)); have K4 := box (K4.out.below hb5 (Nat.le_refl _))
  have X5 := box hx5; have L5 := box hl5; have K5 := box ks5; have C5 := box kc5
  clear hb5 hx5 hl5 ks5 kc5
  go_wp2_with fail
  refine (HP1.out _ HB5.out).mono ?_
  rintro e w6 ⟨hop, hcp, kop, kcp, rfl, hx6, hl6, _, _, hb6⟩
  have HB6 := box (below_tr HB5.out hb6)
  have X4 := box (X4.out.below hb6 (Nat.le_refl _)); have K4 := box (K4.out.below hb6 (Nat.le_refl _)); have X5 := box (X5.out.below hb6 (Nat.le_refl _)); have K5 := box (K5.out.below hb6 (Nat.le_refl _))
  have X6 := box hx6; have L6 := box hl6
  clear hb6 hx6 hl6
  go_wp2_with fail
  refine (HP2.out _ HB6.out).mono ?_
  rintro e w7 ⟨hoq, hcq, koq, kcq, rfl, hx7, hl7, _, _, hb7⟩
  have HB7 := box (below_tr HB6.out hb7)
  have X4 := box (X4.out.below hb7 (Nat.le_refl _)); have K4 := box (K4.out.below hb7 (Nat.le_refl _)); have X5 := box (X5.out.below hb7 (Nat.le_refl _)); have K5 := box (K5.out.below hb7 (Nat.le_refl _)); have X6 := box (X6.out.below hb7 (Nat.le_refl _))
  have X7 := box hx7; have L7 := box hl7
  clear hb7 hx7 hl7
  go_wp2_with fail
  go_loopw [89] (fun t89 wr => ∃ j : Nat, j ≤ N ∧ t89 = .int .i64 (j : Int) ∧ wr = w7) (fun t89 _ => N - (intOf t89).toNat)
  case atStart => exact ⟨0, Nat.zero_le _, rfl, rfl⟩
  case round =>
    obtain ⟨j, hj, rfl, rfl⟩ := hrel
    by_cases hjl : j < N
    · obtain ⟨b1, o1, rfl, _, hr1⟩ := X4.out.resolve_left (by intro h; have := L4.out; rw [h] at this; simp at this; omega)
      obtain ⟨b2, o2, rfl, _, hr2⟩ := X5.out.resolve_left (by intro h; have := L5.out; rw [h] at this; simp at this; omega)
      have hj1 : j < xx.length := by have := L4.out; omega
      have hj2 : j < xy.length := by have := L5.out; omega
      have c1 := hr1 j hj1
      have c2 := hr2 j hj2
      have hh := Hhit.out j hjl
      rw [List.getD_eq_getElem?_getD, List.getElem?_eq_getElem hj1, List.getD_eq_getElem?_getD, List.getElem?_eq_getElem hj2] at hh
      simp only [Option.getD_some] at hh
      have d1 : decide (N ≤ j) = false := by simp; omega
      generalize xx[j] = p at *
      generalize xy[j] = q at *
      clear hr1 hr2
      cases p with
      | false =>
        clear hh
        go_wp2_with fail
        go_roundw
        case rel => exact ⟨j + 1, hjl, by go_num, by simp⟩
        case measure => simp [intOf]; omega
      | true =>
        obtain rfl := hh rfl
        clear hh
        go_wp2_with fail
        go_roundw
        case rel => exact ⟨j + 1, hjl, by go_num, by simp⟩
        case measure => simp [intOf]; omega
    have hjN : j = N := by omega
    subst hjN
    have D6 := box (hits_any xp hop hcp wr X6.out (by have := L6.out; omega))
    have D7 := box (hits_any xq hoq hcq wr X7.out (by have := L7.out; omega))
    rw [L6.out] at D6
    rw [L7.out] at D7
    generalize xp.count true = hp at *
    generalize xq.count true = hq at *
    have d1 : decide (hp ≤ hq) = true := decide_eq_true M1.out
    have hlen : kt.length = X.length + ks.length := by rw [HXe.out, List.length_append]
    have HLen := box hlen
    have d2 : decide (ks.length ≤ kt.length) = true := decide_eq_true (by omega)
    have w1' : IntKind.i64.wrap ((kt.length : Int) - (ks.length : Int)) = (X.length : Int) := by rw [hlen, IntWalk.i64_in _ (by have := HKtl.out; omega)]; omega
    clear hlen
    go_wp2_with fail
    refine D6.out.mono ?_
    rintro e w8 ⟨rfl, rfl⟩
    go_wp2_with fail
    refine D7.out.mono ?_
    rintro e w8 ⟨rfl, rfl⟩
    by_cases hj0 : 0 < j
    · have hks := Hne.out hj0
      obtain ⟨b, off, rfl, hb, hrow⟩ := K5.out.resolve_left (by intro h; have := HLen.out; rw [h] at this; simp at this; omega)
      have HSx : IntsAt wr (some ⟨b, off + X.length, none⟩) ks := Or.inr ⟨b, off + X.length, rfl, hb, fun i hi => by
        have h2 : X.length + i < kt.length := by have := HLen.out; omega
        have h3 := hrow (X.length + i) h2
        rw [Nat.add_assoc, h3]
        congr 2
        have he := HXe.out
        subst he
        rw [List.getElem_append_right (by omega)]
        congr 1; omega⟩
      have HEq := box (equalInts_same ks kos (some ⟨b, off + X.length, none⟩) kcs (kct - X.length) wr K4.out HSx (by have := HKtl.out; have := HLen.out; omega))
      have e1 : (X.length : Int) ≤ (kt.length : Int) := by have := HLen.out; omega
      have e2 : (X.length : Int) ≤ (kct : Int) := by have := HLen.out; have := C5.out; omega
      have e3 : kct ≠ X.length := by have := HLen.out; have := C5.out; omega
      have e4 : kt.length - X.length = ks.length := by have := HLen.out; omega
      clear hrow HSx hks
      go_wp2_with fail
      refine HEq.out.mono ?_
      rintro e w8 ⟨rfl, n8, rfl⟩
      go_wp2_with fail
      go_ret
      exact ⟨rfl, HB7.out.trans ⟨rfl, rfl, rfl, Nat.le_refl _, fun _ _ => rfl⟩⟩
    · have hkt0 := Hnil.out (by omega)
      have hks0 : ks = [] := List.eq_nil_of_length_eq_zero (by have := HLen.out; rw [hkt0] at this; simp at this; omega)
      have hX0 : X.length = 0 := by have := HLen.out; rw [hkt0, hks0] at this; simpa using this.symm
      subst hks0
      subst hkt0
      rw [hX0] at w1'
      have e9 : (0 : Int) ≤ (kct : Int) := by omega
      go_wp2_with fail
      refine (equalInts_same [] kos kot kcs kct wr (Or.inl rfl) (Or.inl rfl) (by simp)).mono ?_
      rintro e w8 ⟨rfl, n8, rfl⟩
      go_wp2_with fail
      go_ret
      exact ⟨rfl, HB7.out.trans ⟨rfl, rfl, rfl, Nat.le_refl _, fun _ _ => rfl⟩⟩

theorem poolStack_all (a b : Int) (refs : List Int) (ao : Option Addr) (cap : Nat) (w : World) (h : IntsAt w ao refs) (hcap : refs.length ≤ cap) :
    Calls Try.prog 9 #[.int .i64 a, .int .i64 b, .slice ao refs.length cap] w fun e w' => e = .returned (.bool true) ∧ Below w.heap.size w w' :=
  poolStack_calls a b _ _ rfl rfl (by split <;> split <;> omega) refs ao cap w h hcap
namespace lawPoolStack
open Go.ChangeShapes Go.WideShapes Go.ChangeAt Go.RowKit Go.ChangeMaps

set_option maxRecDepth 100000 in
theorem lifted (os : Os) (started : os.Started) (H : Type) (enc : TypeId × Value → H) :
    ReturnsInHanded {} Try.checked os 9 .any (Rows.poolStackSpec.pre6 enc Try.prog Try.f9 [] false) (Rows.poolStackSpec.post enc Try.prog Try.f9 false true false false) := by
  refine LawKit.law_lifted started (by kernel_rfl) Try.func9 rfl
    (fun ds h => by
      match ds, h with
      | [_, _, _], _ => rfl)
    rfl Try.underlying4 (by intro t ht; exact of_decide_eq_true (p := Try.prog.readableRec t = true ∧ t < Try.prog.types.size) (by revert t ht; decide +kernel))
    (ChangeSpec.witness6 (enc := enc) (C := Try.checked) false ⟨#[], #[.int .i64 0, .int .i64 0, .slice none 0 0], []⟩ 8 (by kernel_rfl) (by kernel_rfl) (by kernel_rfl) (by kernel_rfl)) ?_
  intro W base args ds ps hval hA hsz hlt hfz
  have hA' := hA
  rw [Try.params9] at hA hval
  obtain ⟨v0, vs0, d0, ds0, p0, q0, hargs, rfl, rfl, h0, r0⟩ := trodAll_cons hA
  obtain ⟨v1, vs1, d1, ds1, p1, q1, rfl, rfl, rfl, h1, r1⟩ := trodAll_cons r0
  obtain ⟨v2, vs2, d2, ds2, p2, q2, rfl, rfl, rfl, h2, r2⟩ := trodAll_cons r1
  obtain ⟨rfl, rfl, rfl⟩ := trodAll_nil r2
  obtain rfl : args = #[v0, v1, v2] := by cases args; simp_all
  go_open 0 a
  go_open 1 b
  obtain ⟨ao, cap, l, rfl, hnil, hat, hcap, hcap8, _⟩ := open_numbers (hval 2 _ _ rfl rfl) h2 (Open.weights_bound hsz (j := 2) (by rw [Try.params9]; rfl) rfl)
  refine (poolStack_all a b l ao cap W hat hcap).mono ?_
  rintro e W' ⟨rfl, hb⟩
  exact ⟨rfl, hb⟩

theorem proved : Rows.PoolStackSaid :=
  OpenClaim.holds_of_wide 9 Try.f9 rfl rfl rfl rfl rfl rfl rfl ⟨rfl, rfl, rfl, rfl, rfl⟩ rfl rfl rfl rfl rfl (by kernel_rfl) Try.func9 (by kernel_rfl)
    (of_decide_eq_true (by kernel_rfl)) (by unfold Func.isWrapper; first | (rw [if_pos (by decide +kernel)]; kernel_rfl) | (rw [if_neg (by decide +kernel)]; exact ⟨rfl, rfl⟩))
    (fun os started H enc _ => lifted os started H enc)
end lawPoolStack
end Go.Proofs.Ytnolidjjeknmmaa
