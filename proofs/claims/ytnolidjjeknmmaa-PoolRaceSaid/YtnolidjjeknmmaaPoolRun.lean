/- pool.run: what it computes, whatever the two functions that it is handed are. -/
import Derived.Test.YtnolidjjeknmmaaPoolM
import Derived.Test.YtnolidjjeknmmaaIntDel
namespace Go.Proofs.Ytnolidjjeknmmaa
open Go.RowKit Go.Lib

def boolVals (l : List Bool) : List Value := l.map Value.bool
theorem boolVals_len (l : List Bool) : (boolVals l).length = l.length := by simp [boolVals]
theorem boolVals_append (l m : List Bool) : boolVals (l ++ m) = boolVals l ++ boolVals m := by simp [boolVals]
theorem boolVals_get {l : List Bool} {k : Nat} (h : k < l.length) : (boolVals l)[k]? = some (.bool l[k]) := by simp [boolVals, h]
theorem BoolsM.infoB : (Try.prog.info? 4).map (fun i => (i.zero, i.size, i.bytes)) = some (some (.bool false), 1, 1) := by kernel_rfl

/-- Rows of unlike elements lie in unlike blocks. -/
theorem own_apart {w : World} {base base' e e' size size' n n' : Nat} {v v' : Value} {xs xs' : List Value} (h : w.ownsRow base e size v n xs) (h' : w.ownsRow base' e' size' v' n' xs') (he : e ≠ e') : v.ownBlock = none ∨ v.ownBlock ≠ v'.ownBlock := by
  rcases h.2 with ⟨rfl, _⟩ | ⟨g, cap, cur, rfl, _, hg, _⟩
  · exact Or.inl rfl
  · right
    rcases h'.2 with ⟨rfl, _⟩ | ⟨g', cap', cur', rfl, _, hg', _⟩
    · simp [Value.ownBlock]
    · simp only [Value.ownBlock, ne_eq, Option.some.injEq]
      rintro rfl
      rw [hg] at hg'
      simp at hg'
      exact he hg'.2

theorem own_cap {w : World} {base e size n cap : Nat} {ao : Option Addr} {xs : List Value} (h : w.ownsRow base e size (.slice ao n cap) n xs) : cap ≤ 9223372036854775807 := by
  rcases h.2 with ⟨h1, _⟩ | ⟨g, cap', cur, h1, _, _, _, h5, _⟩
  · simp only [Value.slice.injEq] at h1
    omega
  · simp only [Value.slice.injEq] at h1
    unfold maxLen at h5
    omega

def PickOk (pf : Nat) (plb : Array Value) (pick : List Int → Nat → Nat) (n : Nat) (W0 : World) : Prop :=
  ∀ (W : World) (l : List Int) (ao : Option Addr) (cap i : Nat), Below W0.heap.size W0 W → IntsAt W ao l → 0 < l.length → l.length ≤ 50 → i < n →
    Calls Try.prog pf (#[.slice ao l.length cap, .int .i64 (i : Int)] ++ plb) W fun e w' => e = .returned (.int .i64 (pick l i : Nat)) ∧ Below W.heap.size W w'
def SeenPost (seen : List Int → Int → List Int) (base : Nat) (l : List Int) (x : Int) (v : Value) (W : World) (e : Ending) (w' : World) : Prop :=
  ∃ v', e = .returned v' ∧ v'.ownBlock = v.ownBlock ∧ w'.ownsRow base 3 1 v' (seen l x).length (intVals (seen l x)) ∧ W.grownBy w' v.ownBlock
def SeenOk (sf : Nat) (slb : Array Value) (seen : List Int → Int → List Int) (W0 : World) : Prop :=
  ∀ (W : World) (l : List Int) (x : Int) (v : Value), Below W0.heap.size W0 W → W.ownsRow W0.heap.size 3 1 v l.length (intVals l) → x ∈ l → l.length ≤ 50 →
    Calls Try.prog sf (#[v, .int .i64 x] ++ slb) W (SeenPost seen W0.heap.size l x v W)

def RunPost (pick : List Int → Nat → Nat) (seen : List Int → Int → List Int) (size : Nat) (refs : List Int) (w : World) (e : Ending) (w' : World) : Prop :=
  ∃ hv kv, e = .returned (.tuple #[hv, kv]) ∧ w'.ownsRow w.heap.size 4 1 hv refs.length (boolVals (PoolM.hits pick seen size refs refs.length)) ∧
    w'.ownsRow w.heap.size 3 1 kv (PoolM.kept pick seen size refs refs.length).length (intVals (PoolM.kept pick seen size refs refs.length)) ∧ Below w.heap.size w w'

set_option maxRecDepth 20000 in
set_option maxHeartbeats 8000000 in
theorem poolRun_any (size : Nat) (refs : List Int) (pf sf : Nat) (plb slb : Array Value) (pick : List Int → Nat → Nat) (seen : List Int → Int → List Int) (ao : Option Addr) (cap : Nat) (w : World)
    (h : IntsAt w ao refs) (h1 : 1 ≤ size) (h50 : size ≤ 50) (hn : refs.length ≤ 2000) (hr : PoolM.Rule pick seen) (hp : PickOk pf plb pick refs.length w) (hs : SeenOk sf slb seen w)
    (ep : ∀ args w, (callFunc pf args).run Try.prog w = .ok (.enter pf args) w) (es : ∀ args w, (callFunc sf args).run Try.prog w = .ok (.enter sf args) w) :
    Calls Try.prog 73 #[.int .i64 (size : Int), .slice ao refs.length cap, .func (.func pf) #[] plb, .func (.func sf) #[] slb] w (RunPost pick seen size refs w) := by
  obtain ⟨i0, hi0, hz0, hz1, hz2⟩ := info_parts IntsM.infoI
  obtain ⟨ib, hib, hbz0, hbz1, hbz2⟩ := info_parts BoolsM.infoB
  have H := box h; have HP := box hp; have HS := box hs; have HR := box hr
  have HKl := box (PoolM.kept_len hr size h1 refs)
  clear h hp hs hr
  obtain ⟨N, HN⟩ : ∃ N, Box (refs.length = N) := ⟨_, ⟨rfl⟩⟩
  rw [HN.out] at hn ⊢
  go_enter Try.func73, Try.ntmps73
  go_wp2_with fail
  go_loopw [10, 11, 18] (fun t10 t11 t18 wr => ∃ k : Nat, k ≤ N ∧ t18 = .int .i64 (k : Int) ∧ Box (wr.ownsRow w.heap.size 4 1 t10 k (boolVals (PoolM.hits pick seen size refs k))) ∧
      Box (wr.ownsRow w.heap.size 3 1 t11 (PoolM.kept pick seen size refs k).length (intVals (PoolM.kept pick seen size refs k))) ∧ Box (Below w.heap.size w wr)) (fun _ _ t18 _ => N - (intOf t18).toNat)
  case atStart => exact ⟨0, Nat.zero_le _, rfl, ⟨World.ownsRow_nil _ _ _ _⟩, ⟨World.ownsRow_nil _ _ _ _⟩, ⟨Below.refl _ _⟩⟩
  case round =>
    obtain ⟨k, hk, rfl, HH, HK, HB⟩ := hrel
    by_cases hlt : k < N
    case neg =>
      have hkn : k = N := by omega
      subst hkn
      go_wp2_with fail
      refine bodyPost_ret (v := .tuple #[u10, u11]) (by simp [results, Try.results73, go_sem]) rfl ⟨u10, u11, rfl, ?_, ?_, HB.out⟩
      · rw [HN.out]; exact HH.out
      · rw [HN.out]; exact HK.out
    obtain ⟨L, HL⟩ : ∃ L, Box (PoolM.kept pick seen size refs k = L) := ⟨_, ⟨rfl⟩⟩
    have HKs : Box (PoolM.kept pick seen size refs (k + 1) = PoolM.step pick seen size L k (refs.getD k 0)) := ⟨by rw [← HL.out]; rfl⟩
    have HHs := PoolM.hits_succ pick seen size refs k
    have hLl := HKl.out k
    rw [HL.out] at HK HHs hLl
    obtain ⟨b, off, rfl, hb, hrow⟩ := ((H.out.below HB.out (Nat.le_refl _)).resolve_left (by intro h; have := HN.out; rw [h] at this; simp at this; omega))
    have c0 := hrow k (by have := HN.out; omega)
    rw [show refs[k]'(by have := HN.out; omega) = refs.getD k 0 by rw [List.getD_eq_getElem?_getD, List.getElem?_eq_getElem (by have := HN.out; omega)]; rfl] at c0
    obtain ⟨x, HX⟩ : ∃ x, Box (refs.getD k 0 = x) := ⟨_, ⟨rfl⟩⟩
    rw [HX.out] at c0 HKs HHs
    have HHs := box HHs
    obtain ⟨ko, kc, rfl, _, hat, hnil, hlc⟩ := IntsAt.own HK.out
    have HAt := box hat
    have Hix := IntsM.idx_ge L x
    obtain ⟨q, Hq⟩ : ∃ q, Box (IntsM.idx L x = q) := ⟨_, ⟨rfl⟩⟩
    rw [Hq.out] at Hix
    have hHl := PoolM.hits_len pick seen size refs k
    have hsr := HB.out.size
    clear hrow hat hnil
    go_wp2_with fail
    refine (index_ints L x ko kc wr HAt.out (by omega)).mono ?_
    rintro e w1 ⟨rfl, rfl⟩
    rw [Hq.out]
    have hown2 := HH.out.alloc (.cells #[.bool (decide (x ∈ L))] 4)
    go_wp2_with (at_builtin; go_must (refine wpList_append_own _ rfl _ _ 66 rfl w.heap.size 4 ib _ 1 1 Try.underlying66 hib hbz0 hbz1 hbz2 rfl (by decide) _ _ _ rfl hown2 ⟨wr.heap.size, 0, none⟩ 1 1 [.bool (decide (x ∈ L))] rfl rfl (cells_new wr [.bool (decide (x ∈ L))] 4) (by simp [Value.oneCell']) (by unfold maxLen; omega) (by omega) (by simp; omega) ?_))
    intro hv' w2 hownH hgrow _
    have hap := own_apart HK.out HH.out (by decide)
    have HK2 := box ((HK.out.alloc (.cells #[.bool (decide (x ∈ L))] 4)).kept hgrow hap)
    have HB2 := box ((HB.out.alloc hsr (.cells #[.bool (decide (x ∈ L))] 4)).grown hgrow (by simp; omega) (fun j hj => (HH.out.lt j hj).1))
    have HH2 : Box (w2.ownsRow w.heap.size 4 1 hv' (k + 1) (boolVals (PoolM.hits pick seen size refs (k + 1)))) := ⟨by rw [HHs.out, boolVals_append]; exact hownH⟩
    clear hown2 hownH hgrow hap HK HH HHs
    by_cases hx : x ∈ L
    · have d0 : decide (0 ≤ q) = true := by rw [Hix]; exact decide_eq_true hx
      have HE : Box (PoolM.kept pick seen size refs (k + 1) = seen L x) := ⟨by rw [HKs.out]; unfold PoolM.step; rw [if_pos hx]⟩
      have HC := box (HS.out w2 L x _ HB2.out HK2.out hx (by omega))
      clear hx Hix
      go_wp2_with fail
      refine HC.out.mono ?_
      rintro e w3 ⟨v', rfl, hbk, hown, hgr⟩
      have hap := own_apart HH2.out HK2.out (by decide)
      have HH3 := box (HH2.out.kept hgr hap)
      have HB3 := box (HB2.out.grown hgr HB2.out.size (fun j hj => (HK2.out.lt j hj).1))
      have HK3 : Box (w3.ownsRow w.heap.size 3 1 v' (PoolM.kept pick seen size refs (k + 1)).length (intVals (PoolM.kept pick seen size refs (k + 1)))) := ⟨by rw [HE.out]; exact hown⟩
      clear hbk hown hgr hap HC
      go_wp2_with fail
      go_roundw
      case rel => exact ⟨k + 1, hlt, by go_num, HH3, HK3, HB3⟩
      case measure => simp [intOf]; omega
    have d0 : decide (0 ≤ q) = false := by rw [Hix]; exact decide_eq_false hx
    by_cases hfull : L.length = size
    · have d1 : ((L.length : Int) == (size : Int)) = true := by rw [hfull]; simp
      have hpk := HR.out.pick L k (by omega)
      have HE : Box (PoolM.kept pick seen size refs (k + 1) = L.eraseIdx (pick L k) ++ [x]) := ⟨by rw [HKs.out]; unfold PoolM.step; rw [if_neg hx, if_pos hfull]⟩
      obtain ⟨g, c', hv, hg1, hg2, hg3⟩ := ownsRow_shape HK2.out (by
        intro h
        simp only [Value.slice.injEq] at h
        omega)
      simp only [Value.slice.injEq, true_and] at hv
      obtain ⟨rfl, rfl⟩ := hv
      obtain ⟨ko', kc', hv2, _, hat2, _, _⟩ := IntsAt.own HK2.out
      simp only [Value.slice.injEq, true_and] at hv2
      obtain ⟨rfl, rfl⟩ := hv2
      have HC := box (HP.out w2 L _ kc k HB2.out hat2 (by omega) (by omega) (by have := HN.out; omega))
      have Hf := box hfull
      clear hx Hix hat2 hfull
      obtain ⟨p, Hpk⟩ : ∃ p, Box (pick L k = p) := ⟨_, ⟨rfl⟩⟩
      rw [Hpk.out] at HC hpk HE
      have w1' : IntKind.i64.wrap ((p : Int) + 1) = (p : Int) + 1 := IntWalk.i64_in _ (by omega)
      go_wp2_with fail
      refine HC.out.mono ?_
      rintro e w3 ⟨rfl, hb3⟩
      have HK3 := box (ownsRow_below HK2.out hb3); have HH3 := box (ownsRow_below HH2.out hb3); have HB3 := box (below_tr HB2.out hb3)
      clear hb3 HC HK2 HH2
      go_wp2_with fail
      refine (deleteInts_any L p kc g w.heap.size w3 HK3.out hpk hg3 (own_cap HK3.out)).mono ?_
      rintro e w4 ⟨rfl, hownD, hgr⟩
      have hap := own_apart HH3.out HK3.out (by decide)
      have HH4 := box (HH3.out.kept hgr hap)
      have HB4 := box (HB3.out.grown hgr HB3.out.size (fun j hj => (HK3.out.lt j hj).1))
      have HK4 := box hownD
      have hel : (L.eraseIdx p).length ≤ 50 := by rw [List.length_eraseIdx, if_pos hpk]; omega
      clear hownD hgr hap HK3 HH3
      have hs4 := HB4.out.size
      have hown2 := HK4.out.alloc (.cells #[.int .i64 x] 3)
      go_wp2_with (at_builtin; go_must (refine wpList_append_own _ rfl _ _ 25 rfl w.heap.size 3 i0 _ 1 8 Try.underlying25 hi0 hz0 hz1 hz2 rfl (by decide) _ _ _ rfl hown2 ⟨w4.heap.size, 0, none⟩ 1 1 [.int .i64 x] rfl rfl (cells_new w4 [.int .i64 x] 3) (by simp [Value.oneCell']) (by unfold maxLen; omega) (by omega) (by simp; omega) ?_))
      intro v' w5 hownK hgrow _
      have hap := own_apart HH4.out HK4.out (by decide)
      have HH5 := box ((HH4.out.alloc (.cells #[.int .i64 x] 3)).kept hgrow hap)
      have HB5 := box ((HB4.out.alloc hs4 (.cells #[.int .i64 x] 3)).grown hgrow (by simp; omega) (fun j hj => (HK4.out.lt j hj).1))
      have HK5 : Box (w5.ownsRow w.heap.size 3 1 v' (PoolM.kept pick seen size refs (k + 1)).length (intVals (PoolM.kept pick seen size refs (k + 1)))) := ⟨by rw [HE.out, intVals_append, List.length_append]; exact hownK⟩
      clear hown2 hownK hgrow hap
      go_wp2_with fail
      go_roundw
      case rel => exact ⟨k + 1, hlt, by go_num, HH5, HK5, HB5⟩
      case measure => simp [intOf]; omega
    have d1 : ((L.length : Int) == (size : Int)) = false := by simp; omega
    have HE : Box (PoolM.kept pick seen size refs (k + 1) = L ++ [x]) := ⟨by rw [HKs.out]; unfold PoolM.step; rw [if_neg hx, if_neg hfull]⟩
    clear hx Hix hfull
    have hs4 := HB2.out.size
    have hown2 := HK2.out.alloc (.cells #[.int .i64 x] 3)
    go_wp2_with (at_builtin; go_must (refine wpList_append_own _ rfl _ _ 25 rfl w.heap.size 3 i0 _ 1 8 Try.underlying25 hi0 hz0 hz1 hz2 rfl (by decide) _ _ _ rfl hown2 ⟨w2.heap.size, 0, none⟩ 1 1 [.int .i64 x] rfl rfl (cells_new w2 [.int .i64 x] 3) (by simp [Value.oneCell']) (by unfold maxLen; omega) (by omega) (by simp; omega) ?_))
    intro v' w5 hownK hgrow _
    have hap := own_apart HH2.out HK2.out (by decide)
    have HH5 := box ((HH2.out.alloc (.cells #[.int .i64 x] 3)).kept hgrow hap)
    have HB5 := box ((HB2.out.alloc hs4 (.cells #[.int .i64 x] 3)).grown hgrow (by simp; omega) (fun j hj => (HK2.out.lt j hj).1))
    have HK5 : Box (w5.ownsRow w.heap.size 3 1 v' (PoolM.kept pick seen size refs (k + 1)).length (intVals (PoolM.kept pick seen size refs (k + 1)))) := ⟨by rw [HE.out, intVals_append, List.length_append]; exact hownK⟩
    clear hown2 hownK hgrow hap
    go_wp2_with fail
    go_roundw
    case rel => exact ⟨k + 1, hlt, by go_num, HH5, HK5, HB5⟩
    case measure => simp [intOf]; omega
end Go.Proofs.Ytnolidjjeknmmaa
