/- pool.Clock: what it computes. -/
import Derived.Test.YtnolidjjeknmmaaPoolFL
import Derived.Test.YtnolidjjeknmmaaPoolClkM
namespace Go.Proofs.Ytnolidjjeknmmaa
open Go.RowKit Go.Lib

theorem apart_new {w : World} {base e size n m : Nat} {hv hv' uv : Value} {xs : List Value} (h : hv.ownBlock = none ∨ hv.ownBlock ≠ uv.ownBlock) (hu : w.ownsRow base e size uv n xs) (ha : hv'.ownBlock = hv.ownBlock ∨ hv'.ownBlock = some m) (hm : w.heap.size ≤ m) : hv'.ownBlock = none ∨ hv'.ownBlock ≠ uv.ownBlock := by
  rcases ha with h1 | h1
  · rw [h1]; exact h
  · right
    rw [h1]
    intro h2
    have := (hu.lt _ h2.symm).2
    omega
theorem apart_symm {a b : Value} (h : a.ownBlock = none ∨ a.ownBlock ≠ b.ownBlock) : b.ownBlock = none ∨ b.ownBlock ≠ a.ownBlock := by
  cases hb : b.ownBlock with
  | none => exact Or.inl rfl
  | some g =>
    right
    rcases h with h | h
    · rw [h]; simp
    · rw [hb] at h; exact fun e => h e.symm

/-- How many of the first n cells of a block hold true. -/
def cntTrue (w : World) (g n : Nat) : Nat := (List.range n).countP fun j => match w.cell? ⟨g, j, none⟩ with
  | some (.bool b) => b
  | _ => false
theorem cntTrue_row {w : World} {base e g n cap : Nat} {l : List Bool} (h : w.ownsRow base e 1 (.slice (some ⟨g, 0, none⟩) n cap) n (boolVals l)) : cntTrue w g n = l.count true := by
  have hl : l.length = n := by have := h.1; rw [boolVals_len] at this; omega
  have e : ∀ j ∈ List.range n, (match w.cell? ⟨g, j, none⟩ with
      | some (.bool b) => b
      | _ => false) = l.getD j false := by
    intro j hj
    have hj' : j < l.length := by rw [hl]; simpa using hj
    rw [h.cellAt j (by omega), boolVals_get hj', List.getD_eq_getElem?_getD, List.getElem?_eq_getElem hj']
    rfl
  unfold cntTrue
  rw [List.countP_congr (q := fun j => l.getD j false) (fun j hj => by rw [e j hj])]
  have hm : l = (List.range n).map (fun j => l.getD j false) := by
    apply List.ext_getElem (by simp [hl])
    intro i h1 h2
    simp [h1]
  conv => rhs; rw [hm]
  rw [List.count, List.countP_map]
  congr 1
  funext j
  simp

def ClkPost (size : Int) (refs : List Int) (w : World) (e : Ending) (w' : World) : Prop :=
  Below w.heap.size w w' ∧
    ((PoolM.check size refs.length ≠ 0 ∧ e = .returned (.tuple #[.slice none 0 0, .slice none 0 0, .int .i64 (PoolM.check size refs.length)])) ∨
     (PoolM.check size refs.length = 0 ∧ ∃ hv kv, e = .returned (.tuple #[hv, kv, .int .i64 0]) ∧ w'.ownsRow w.heap.size 4 1 hv refs.length (boolVals (PoolM.clkHits size.toNat refs refs.length)) ∧
        w'.ownsRow w.heap.size 3 1 kv (PoolM.clkAt size.toNat refs refs.length).fr.length (intVals (PoolM.clkAt size.toNat refs refs.length).fr)))

theorem intVals_set1 (l : List Int) (i : Nat) (x : Int) : (intVals l).set i (.int .i64 x) = intVals (l.set i x) := by simp [intVals, List.map_set]
theorem boolVals_set (l : List Bool) (i : Nat) (x : Bool) : (boolVals l).set i (.bool x) = boolVals (l.set i x) := by simp [boolVals, List.map_set]

/-- The clock's state in memory. -/
structure ClkW (size : Nat) (refs : List Int) (w : World) (k : Nat) (s : PoolM.Ck) (hv fv uv : Value) (wr : World) : Prop where
  hh : wr.ownsRow w.heap.size 4 1 hv k (boolVals (PoolM.clkHits size refs k))
  hf : wr.ownsRow w.heap.size 3 1 fv s.fr.length (intVals s.fr)
  hu : wr.ownsRow w.heap.size 4 1 uv s.us.length (boolVals s.us)
  apart : hv.ownBlock = none ∨ hv.ownBlock ≠ uv.ownBlock
  below : Below w.heap.size w wr

set_option maxRecDepth 20000 in
set_option maxHeartbeats 8000000 in
theorem clock_main (size : Nat) (refs : List Int) (ao : Option Addr) (cap : Nat) (w : World) (h : IntsAt w ao refs) (hc : PoolM.check (size : Int) refs.length = 0) (h1 : 1 ≤ size) (h50 : size ≤ 50) (hn : refs.length ≤ 2000) :
    Calls Try.prog 49 #[.int .i64 (size : Int), .slice ao refs.length cap] w (ClkPost (size : Int) refs w) := by
  obtain ⟨i0, hi0, hz0, hz1, hz2⟩ := info_parts IntsM.infoI
  obtain ⟨ib, hib, hbz0, hbz1, hbz2⟩ := info_parts BoolsM.infoB
  have HC := box (poolCheck_any (size : Int) refs.length ao cap w)
  have H := box h; have Hc := box hc
  have HOk := box (PoolM.clk_ok h1 refs)
  rw [hc] at HC
  clear h hc
  obtain ⟨N, HN⟩ : ∃ N, Box (refs.length = N) := ⟨_, ⟨rfl⟩⟩
  rw [HN.out] at hn HC ⊢
  go_enter Try.func49, Try.ntmps49
  go_wp2_with fail
  refine HC.out.mono ?_
  rintro e w1 ⟨rfl, rfl⟩
  go_wp2_with fail
  go_loopw [8, 9, 10, 11, 23] (fun t8 t9 t10 t11 t23 wr => ∃ (k : Nat), k ≤ N ∧ t23 = .int .i64 (k : Int) ∧ t11 = .int .i64 ((PoolM.clkAt size refs k).hand : Nat) ∧ Box (ClkW size refs w k (PoolM.clkAt size refs k) t8 t9 t10 wr)) (fun _ _ _ _ t23 _ => N - (intOf t23).toNat)
  case atStart => exact ⟨0, Nat.zero_le _, rfl, rfl, ⟨⟨World.ownsRow_nil _ _ _ _, World.ownsRow_nil _ _ _ _, World.ownsRow_nil _ _ _ _, Or.inl rfl, Below.refl _ _⟩⟩⟩
  case round =>
    obtain ⟨k, hk, rfl, rfl, HW⟩ := hrel
    by_cases hlt : k < N
    case neg =>
      have hkn : k = N := by omega
      subst hkn
      go_wp2_with fail
      refine bodyPost_ret (v := .tuple #[u8, u9, .int .i64 0]) (by simp [results, Try.results49, go_sem]) rfl ⟨HW.out.below, Or.inr ⟨by rw [HN.out] at Hc; rw [HN.out]; exact Hc.out, u8, u9, rfl, ?_, ?_⟩⟩
      · rw [HN.out]; exact HW.out.hh
      · rw [HN.out]; exact HW.out.hf
    have hok := HOk.out k
    have HKs : Box (PoolM.clkAt size refs (k + 1) = PoolM.clk size (PoolM.clkAt size refs k) (refs.getD k 0)) := ⟨rfl⟩
    have HHs := PoolM.clkHits_succ size refs k
    obtain ⟨s, HS⟩ : ∃ s, Box (PoolM.clkAt size refs k = s) := ⟨_, ⟨rfl⟩⟩
    rw [HS.out] at HW hok HHs HKs ⊢
    obtain ⟨b, off, rfl, hb, hrow⟩ := ((H.out.below HW.out.below (Nat.le_refl _)).resolve_left (by intro h; have := HN.out; rw [h] at this; simp at this; omega))
    have c0 := hrow k (by have := HN.out; omega)
    rw [show refs[k]'(by have := HN.out; omega) = refs.getD k 0 by rw [List.getD_eq_getElem?_getD, List.getElem?_eq_getElem (by have := HN.out; omega)]; rfl] at c0
    obtain ⟨x, HX⟩ : ∃ x, Box (refs.getD k 0 = x) := ⟨_, ⟨rfl⟩⟩
    rw [HX.out] at c0 HKs HHs
    have HHs := box HHs
    obtain ⟨fo, fc, rfl, _, hat, hnil, hlc⟩ := IntsAt.own HW.out.hf
    have HAt := box hat
    have Hix := IntsM.idx_ge s.fr x
    obtain ⟨q, Hq⟩ : ∃ q, Box (IntsM.idx s.fr x = q) := ⟨_, ⟨rfl⟩⟩
    rw [Hq.out] at Hix
    have hHl := PoolM.clkHits_len size refs k
    have hsr := HW.out.below.size
    have hfl := hok.le; have hul := hok.same; have hhd := hok.hand
    obtain ⟨fr, us, hand⟩ := s
    clear hrow hat hnil hok
    dsimp only at *
    obtain ⟨L, HL⟩ : ∃ L, Box (fr.length = L) := ⟨_, ⟨rfl⟩⟩
    have HUl := box hul
    rw [HL.out] at hfl hlc ⊢
    clear hul
    go_wp2_with fail
    refine (by rw [← HL.out]; exact index_ints fr x fo fc wr HAt.out (by have := HL.out; omega) : Calls Try.prog 55 #[.slice fo L fc, .int .i64 x] wr fun e w' => e = .returned (.int .i64 (IntsM.idx fr x)) ∧ wr = w').mono ?_
    rintro e w1 ⟨rfl, rfl⟩
    rw [Hq.out]
    have hown2 := HW.out.hh.alloc (.cells #[.bool (decide (x ∈ fr))] 4)
    go_wp2_with (at_builtin; go_must (refine wpList_append_own_at _ rfl _ _ 66 rfl w.heap.size 4 ib _ 1 1 Try.underlying66 hib hbz0 hbz1 hbz2 rfl (by decide) _ _ _ rfl hown2 ⟨wr.heap.size, 0, none⟩ 1 1 [.bool (decide (x ∈ fr))] rfl rfl (cells_new wr [.bool (decide (x ∈ fr))] 4) (by simp [Value.oneCell']) (by unfold maxLen; omega) (by omega) (by simp; omega) ?_))
    intro hv' w2 hownH hgrow _ hatH
    have hapf := own_apart HW.out.hf HW.out.hh (by decide)
    have HF2 := box ((HW.out.hf.alloc (.cells #[.bool (decide (x ∈ fr))] 4)).kept hgrow hapf)
    have HU2 := box ((HW.out.hu.alloc (.cells #[.bool (decide (x ∈ fr))] 4)).kept hgrow (apart_symm HW.out.apart))
    have HA2 := box (apart_new HW.out.apart HW.out.hu hatH (by omega))
    have HB2 := box ((HW.out.below.alloc hsr (.cells #[.bool (decide (x ∈ fr))] 4)).grown hgrow (by simp; omega) (fun j hj => (HW.out.hh.lt j hj).1))
    have HH2 : Box (w2.ownsRow w.heap.size 4 1 hv' (k + 1) (boolVals (PoolM.clkHits size refs (k + 1)))) := ⟨by rw [HHs.out, boolVals_append]; exact hownH⟩
    dsimp only at HF2 HU2
    rw [HUl.out, HL.out] at HU2
    rw [HL.out] at HF2
    clear hown2 hownH hgrow hapf hatH HW HHs HAt
    by_cases hx : x ∈ fr
    · have hjl : fr.findIdx (fun y => x == y) < L := by rw [← HL.out]; exact List.findIdx_lt_length_of_exists ⟨x, hx, by simp⟩
      have hq : q = ((fr.findIdx (fun y => x == y) : Nat) : Int) := by rw [← Hq.out]; unfold IntsM.idx IntsM.find; rw [HL.out, if_pos hjl]
      have HE : Box (PoolM.clkAt size refs (k + 1) = ⟨fr, us.set (fr.findIdx (fun y => x == y)) true, hand⟩) := ⟨by rw [HKs.out]; unfold PoolM.clk; rw [if_pos hx]⟩
      generalize fr.findIdx (fun y => x == y) = j at *
      subst hq
      have d0 : decide ((0 : Int) ≤ (j : Int)) = true := by simp
      obtain ⟨gu, cu, rfl, hg1, hg2, hg3⟩ := ownsRow_shape HU2.out (by
        rintro rfl
        rcases HU2.out.2 with ⟨_, h⟩ | ⟨_, _, _, h, _⟩
        · omega
        · cases h)
      have hcj := HU2.out.cellAt j (by omega)
      rw [boolVals_get (by have := HUl.out; have := HL.out; omega)] at hcj
      have hfj := HU2.out.frozenAt j
      obtain ⟨hst, hsg⟩ := HU2.out.stored j (.bool true)
      have HW3 : Box (ClkW size refs w (k + 1) (PoolM.clkAt size refs (k + 1)) hv' (.slice fo L fc) (.slice (some ⟨gu, 0, none⟩) L cu) (w2.setCell ⟨gu, j, none⟩ (.bool true))) := ⟨by
        rw [HE.out]
        refine ⟨HH2.out.kept hsg HA2.out, ?_, ?_, HA2.out, HB2.out.setCell hg1 _⟩
        · dsimp only
          rw [HL.out]
          exact HF2.out.kept hsg (own_apart HF2.out HU2.out (by decide))
        · dsimp only
          rw [List.length_set, HUl.out, HL.out, ← boolVals_set]
          exact hst⟩
      have HEh : Box ((PoolM.clkAt size refs (k + 1)).hand = hand) := ⟨by rw [HE.out]⟩
      clear hx Hix hst hsg
      go_wp2_with fail
      go_roundw
      case rel => exact ⟨k + 1, hlt, by go_num, by rw [HEh.out], HW3⟩
      case measure => simp [intOf]; omega
    have d0 : decide (0 ≤ q) = false := by rw [Hix]; exact decide_eq_false hx
    by_cases hfull : L < size
    · have d1 : decide (L < size) = true := decide_eq_true hfull
      have HE : Box (PoolM.clkAt size refs (k + 1) = ⟨fr ++ [x], us ++ [true], hand⟩) := ⟨by rw [HKs.out]; unfold PoolM.clk; rw [if_neg hx, if_pos (by rw [HL.out]; exact hfull)]⟩
      clear hx Hix hfull
      have hs4 := HB2.out.size
      have hown2 := HF2.out.alloc (.cells #[.int .i64 x] 3)
      go_wp2_with (at_builtin; go_must (refine wpList_append_own _ rfl _ _ 25 rfl w.heap.size 3 i0 _ 1 8 Try.underlying25 hi0 hz0 hz1 hz2 rfl (by decide) _ _ _ rfl hown2 ⟨w2.heap.size, 0, none⟩ 1 1 [.int .i64 x] rfl rfl (cells_new w2 [.int .i64 x] 3) (by simp [Value.oneCell']) (by unfold maxLen; omega) (by omega) (by simp; omega) ?_))
      intro fv' w3 hownF hgrow _
      have HH3 := box ((HH2.out.alloc (.cells #[.int .i64 x] 3)).kept hgrow (own_apart HH2.out HF2.out (by decide)))
      have HU3 := box ((HU2.out.alloc (.cells #[.int .i64 x] 3)).kept hgrow (own_apart HU2.out HF2.out (by decide)))
      have HB3 := box ((HB2.out.alloc hs4 (.cells #[.int .i64 x] 3)).grown hgrow (by simp; omega) (fun j hj => (HF2.out.lt j hj).1))
      have HF3 := box hownF
      clear hown2 hownF hgrow
      have hs5 := HB3.out.size
      have hown2 := HU3.out.alloc (.cells #[.bool true] 4)
      go_wp2_with (at_builtin; go_must (refine wpList_append_own_at _ rfl _ _ 66 rfl w.heap.size 4 ib _ 1 1 Try.underlying66 hib hbz0 hbz1 hbz2 rfl (by decide) _ _ _ rfl hown2 ⟨w3.heap.size, 0, none⟩ 1 1 [.bool true] rfl rfl (cells_new w3 [.bool true] 4) (by simp [Value.oneCell']) (by unfold maxLen; omega) (by omega) (by simp; omega) ?_))
      intro uv' w4 hownU hgrow _ hatU
      have HW4 : Box (ClkW size refs w (k + 1) (PoolM.clkAt size refs (k + 1)) hv' fv' uv' w4) := ⟨by
        rw [HE.out]
        refine ⟨(HH3.out.alloc _).kept hgrow HA2.out, ?_, ?_, ?_, (HB3.out.alloc hs5 _).grown hgrow (by simp; omega) (fun j hj => (HU3.out.lt j hj).1)⟩
        · dsimp only
          rw [List.length_append, HL.out, intVals_append]
          exact (HF3.out.alloc _).kept hgrow (own_apart HF3.out HU3.out (by decide))
        · dsimp only
          rw [List.length_append, HUl.out, HL.out, boolVals_append]
          exact hownU
        · exact apart_symm (apart_new (apart_symm HA2.out) HH3.out hatU (by omega))⟩
      have HEh : Box ((PoolM.clkAt size refs (k + 1)).hand = hand) := ⟨by rw [HE.out]⟩
      clear hown2 hownU hgrow hatU
      go_wp2_with fail
      go_roundw
      case rel => exact ⟨k + 1, hlt, by go_num, by rw [HEh.out], HW4⟩
      case measure => simp [intOf]; omega
    have d1 : decide (L < size) = false := decide_eq_false hfull
    have HE : Box (PoolM.clkAt size refs (k + 1) = ⟨fr.set (PoolM.swept size us hand).2 x, (PoolM.swept size us hand).1.set (PoolM.swept size us hand).2 true, ((PoolM.swept size us hand).2 + 1) % size⟩) := ⟨by rw [HKs.out]; unfold PoolM.clk; rw [if_neg hx, if_neg (by rw [HL.out]; exact hfull)]⟩
    have hLs : L = size := by omega
    obtain ⟨gu, cu, rfl, hg1, hg2, hg3⟩ := ownsRow_shape HU2.out (by
      rintro rfl
      rcases HU2.out.2 with ⟨_, h⟩ | ⟨_, _, _, h, _⟩
      · omega
      · cases h)
    obtain ⟨gf, cf, hv2, hgf1, hgf2, hgf3⟩ := ownsRow_shape HF2.out (by
      intro h
      simp only [Value.slice.injEq] at h
      omega)
    simp only [Value.slice.injEq, true_and] at hv2
    obtain ⟨rfl, rfl⟩ := hv2
    have hUs : us.length = L := by rw [HUl.out, HL.out]
    have HUs := box hUs
    clear hx Hix hfull hUs
    have HLs := box hLs
    clear hLs
    go_wp2_with fail
    go_loopw [11] (fun t11 wx => ∃ (hd : Nat) (us' : List Bool), hd < size ∧ us'.length = L ∧ t11 = .int .i64 (hd : Int) ∧ Box (PoolM.swept size us' hd = PoolM.swept size us hand) ∧
      Box (wx.ownsRow w.heap.size 4 1 (.slice (some ⟨gu, 0, none⟩) L cu) L (boolVals us')) ∧ Box (w2.grownBy wx (some gu))) (fun _ wx => cntTrue wx gu L)
    case atStart => exact ⟨hand, us, hhd, HUs.out, rfl, ⟨rfl⟩, HU2, ⟨grownBy_refl1 _ _⟩⟩
    case round =>
      obtain ⟨hd, us', hhd', hul', rfl, HSw, HUx, HGx⟩ := hrel
      have hdL : hd < L := by have := HLs.out; omega
      have hcu := HUx.out.cellAt hd (by omega)
      rw [boolVals_get (by omega)] at hcu
      have hfu := HUx.out.frozenAt hd
      have w1' : IntKind.i64.wrap ((hd : Int) + 1) = (hd : Int) + 1 := IntWalk.i64_in _ (by omega)
      have hsz0 : (size : Int) ≠ 0 := by omega
      have hrm : ((hd : Int) + 1).tmod (size : Int) = (((hd + 1) % size : Nat) : Int) := by
        rw [Int.tmod_eq_emod_of_nonneg (by omega)]; simp
      have hrl : (hd + 1) % size < size := Nat.mod_lt _ h1
      by_cases hu : us'[hd] = true
      · have HS2 : Box (PoolM.swept size (us'.set hd false) ((hd + 1) % size) = PoolM.swept size us hand) := ⟨by
          rw [← HSw.out]
          exact (PoolM.swept_true (by rw [List.getD_eq_getElem?_getD, List.getElem?_eq_getElem (by omega)]; exact hu)).symm⟩
        obtain ⟨hst, hsg⟩ := HUx.out.stored hd (.bool false)
        rw [boolVals_set] at hst
        have HU3 := box hst
        have HG3 := box (World.grownBy.trans HGx.out hsg)
        have Hcnt : Box (cntTrue (wr.setCell ⟨gu, hd, none⟩ (.bool false)) gu L < cntTrue wr gu L) := ⟨by
          rw [cntTrue_row hst, cntTrue_row HUx.out, List.count_set (by omega)]
          have : 0 < us'.count true := List.count_pos_iff.2 (hu ▸ List.getElem_mem (by omega))
          simp [hu]; omega⟩
        rw [hu] at hcu
        have hul2 : (us'.set hd false).length = L := by rw [List.length_set]; exact hul'
        have HUl2 := box hul2
        have HUl' := box hul'
        clear hst hsg hu hul2 hul'
        generalize (hd + 1) % size = nh at *
        go_wp2_with fail
        go_roundw
        case rel => exact ⟨nh, us'.set hd false, hrl, HUl2.out, by go_num, HS2, HU3, HG3⟩
        case measure => exact Hcnt.out
      · have hu0 : us'[hd] = false := by simpa using hu
        have hsw : PoolM.swept size us hand = (us', hd) := by
          rw [← HSw.out]
          exact PoolM.swept_false (by rw [List.getD_eq_getElem?_getD, List.getElem?_eq_getElem (by omega)]; exact hu0)
        rw [hsw] at HE
        dsimp only at HE
        rw [hu0] at hcu
        have HF3 := box (HF2.out.kept HGx.out (own_apart HF2.out HU2.out (by decide)))
        have HH3 := box (HH2.out.kept HGx.out HA2.out)
        have HB3 := box (HB2.out.grown HGx.out HB2.out.size (fun j hj => by injection hj with hj; omega))
        have hcf := HF3.out.cellAt hd (by omega)
        rw [intVals_get (by rw [HL.out]; exact hdL)] at hcf
        have hff := HF3.out.frozenAt hd
        obtain ⟨hst, hsg⟩ := HF3.out.stored hd (.int .i64 x)
        have HU4 := HUx.out.kept hsg (own_apart HUx.out HF3.out (by decide))
        have HH4 := HH3.out.kept hsg (own_apart HH3.out HF3.out (by decide))
        have hcu4 := HU4.cellAt hd (by omega)
        rw [boolVals_get (by omega), hu0] at hcu4
        have hfu4 := HU4.frozenAt hd
        obtain ⟨hst2, hsg2⟩ := HU4.stored hd (.bool true)
        have hgfu : gf ≠ gu := by
          intro e
          rcases own_apart HF3.out HUx.out (by decide) with h | h
          · simp [Value.ownBlock] at h
          · exact h (by simp [Value.ownBlock, e])
        have HW5 : Box (ClkW size refs w (k + 1) (PoolM.clkAt size refs (k + 1)) hv' (.slice (some ⟨gf, 0, none⟩) L fc) (.slice (some ⟨gu, 0, none⟩) L cu) ((wr.setCell ⟨gf, hd, none⟩ (.int .i64 x)).setCell ⟨gu, hd, none⟩ (.bool true))) := ⟨by
          rw [HE.out]
          refine ⟨HH4.kept hsg2 HA2.out, ?_, ?_, HA2.out, (HB3.out.setCell hgf1 _).setCell hg1 _⟩
          · dsimp only
            rw [List.length_set, HL.out, ← intVals_set1]
            exact hst.kept hsg2 (own_apart hst HU4 (by decide))
          · dsimp only
            rw [List.length_set, hul', ← boolVals_set]
            exact hst2⟩
        have HEh : Box ((PoolM.clkAt size refs (k + 1)).hand = (hd + 1) % size) := ⟨by rw [HE.out]⟩
        clear hst hsg hst2 hsg2 HU4 HH4 hu hu0 hsw hul'
        generalize (hd + 1) % size = nh at *
        go_wp2_with fail
        go_roundw
        case rel => exact ⟨k + 1, hlt, by go_num, by rw [HEh.out], HW5⟩
        case measure => simp [intOf]; omega

set_option maxRecDepth 20000 in
set_option maxHeartbeats 2000000 in
theorem clock_any (size : Int) (refs : List Int) (ao : Option Addr) (cap : Nat) (w : World) (h : IntsAt w ao refs) :
    Calls Try.prog 49 #[.int .i64 size, .slice ao refs.length cap] w (ClkPost size refs w) := by
  by_cases hc : PoolM.check size refs.length = 0
  · obtain ⟨s, rfl, h1, h2, h3⟩ := PoolM.check_ok hc
    exact clock_main s refs ao cap w h hc h1 h2 h3
  have HC := box (poolCheck_any size refs.length ao cap w)
  obtain ⟨c, Hcc⟩ : ∃ c, Box (PoolM.check size refs.length = c) := ⟨_, ⟨rfl⟩⟩
  rw [Hcc.out] at HC hc
  have d0 : (c == 0) = false := by simpa using hc
  have d1 : (c != 0) = true := by simpa using hc
  have Hc := box hc
  clear hc h
  go_enter Try.func49, Try.ntmps49
  go_wp2_with fail
  refine HC.out.mono ?_
  rintro e w1 ⟨rfl, rfl⟩
  go_wp2_with fail
  refine bodyPost_ret (v := .tuple #[.slice none 0 0, .slice none 0 0, .int .i64 c]) (by simp [results, Try.results49, go_sem]) rfl ⟨Below.refl _ _, Or.inl ⟨by rw [Hcc.out]; exact Hc.out, by rw [Hcc.out]⟩⟩
end Go.Proofs.Ytnolidjjeknmmaa
