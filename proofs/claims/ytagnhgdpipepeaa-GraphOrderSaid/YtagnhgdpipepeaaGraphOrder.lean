/- GraphOrder is proved for every input: no condition stands ahead of it. -/
import Derived.Test.YtagnhgdpipepeaaLawKit
import Derived.Test.YtagnhgdpipepeaaGrR
import Derived.Test.YtagnhgdpipepeaaSlEg
import Derived.Test.YtagnhgdpipepeaaIntEq
import Derived.Test.YtagnhgdpipepeaaEgOpen
namespace Go.Proofs.Ytagnhgdpipepeaa
open Go.RowKit Go.Lib

/-- The law's first call. -/
def GrM.OrderX (w : World) (e : Ending) (w' : World) : Prop := ∃ v, e = .returned (.tuple #[v, .int .i64 0]) ∧ (∃ ao c, v = .slice ao 3 c ∧ IntsAt w' ao [1, 2, 0]) ∧ Below w.heap.size w w'
theorem order_x (w : World) (ao : Option Addr) (h : EgsAt w ao [⟨2, 0⟩]) : Calls Try.prog 10 #[.int .i64 3, .slice ao 1 1] w (GrM.OrderX w) := by
  refine (graphOrder_any 3 [⟨2, 0⟩] ao 1 w h (by decide)).mono ?_
  rintro e w' ⟨hb, ⟨h1, _⟩ | ⟨_, h1, _⟩ | ⟨_, r, v, h1, rfl, ho⟩⟩
  · exact absurd (show GrM.check 3 [⟨2, 0⟩] = 0 from by decide) h1
  · exact absurd h1 (by decide)
  · have hr : r = [1, 2, 0] := by
      have h2 : GrM.order (3 : Int).toNat [⟨2, 0⟩] = some [1, 2, 0] := by decide
      rw [h2] at h1
      exact (Option.some.inj h1).symm
    subst hr
    obtain ⟨ko, kc, rfl, _, hat, _, _⟩ := IntsAt.own (l := GrM.ints [1, 2, 0]) ho
    exact ⟨_, rfl, ⟨ko, kc, rfl, hat⟩, hb⟩

/-- Where the first i of an order stand. -/
def GrM.pos (r : List Nat) : Nat → Nat → Int
  | 0 => fun _ => 0
  | i + 1 => upd (GrM.pos r i) (r.getD i 0) i
theorem GrM.pos_at {r : List Nat} (hnd : r.Nodup) : ∀ i, i ≤ r.length → ∀ j (hj : j < r.length), j < i → GrM.pos r i r[j] = j
  | 0, _, j, _, h => by omega
  | i + 1, hi, j, hj, h => by
    unfold GrM.pos upd
    have hg : r.getD i 0 = r[i]'(by omega) := by rw [List.getD_eq_getElem?_getD, List.getElem?_eq_getElem (by omega)]; rfl
    rw [hg]
    by_cases e : j = i
    · subst e; rw [if_pos rfl]
    · have hne : r[j] ≠ r[i]'(by omega) := by
        rw [List.nodup_iff_pairwise_ne, List.pairwise_iff_getElem] at hnd
        exact hnd j i hj (by omega) (by omega)
      rw [if_neg hne]
      exact GrM.pos_at hnd i (by omega) j hj (by omega)
/-- Each node is in an order. -/
theorem GrM.all_in {n : Nat} {l : List EgM} {r : List Nat} (h : GrM.Out n l r) (hl : r.length = n) {x : Nat} (hx : x < n) : x ∈ r := by
  refine Classical.byContradiction fun hxr => ?_
  have := List.Nodup.length_le_of_subset (l₁ := x :: r) (List.nodup_cons.2 ⟨hxr, h.nodup⟩) (l₂ := List.range n) (by
    intro y hy
    rcases List.mem_cons.1 hy with rfl | hy
    · exact List.mem_range.2 hx
    · exact List.mem_range.2 (h.lt y hy))
  simp at this; omega
theorem GrM.pos_lt {n : Nat} {l : List EgM} {r : List Nat} (h : GrM.Out n l r) (hl : r.length = n) {x y : Nat} (hx : x < n) (hy : y < n) (hE : (⟨x, y⟩ : EgM) ∈ l) : GrM.pos r n x < GrM.pos r n y := by
  obtain ⟨i, hi, rfl⟩ := List.mem_iff_getElem.1 (GrM.all_in h hl hx)
  obtain ⟨j, hj, rfl⟩ := List.mem_iff_getElem.1 (GrM.all_in h hl hy)
  have hlt := h.forward i j hi hj (GrM.E_iff.2 hE)
  rw [← hl, GrM.pos_at h.nodup _ (Nat.le_refl _) i hi hi, GrM.pos_at h.nodup _ (Nat.le_refl _) j hj hj]
  omega
/-- at[x.From] >= at[x.To]. -/
theorem graphOrder_f (Bv T m : Nat) (f : Nat → Int) (o : EgM) (x y : Nat) (he : o = ⟨x, y⟩) (hx : x < m) (hy : y < m) (W : World) (h1 : Blk W Bv 23 [.slice (some ⟨T, 0, none⟩) m m]) (h2 : ITab W T m f) :
    Calls Try.prog 15 (#[.agg #[.int .i64 o.frm, .int .i64 o.to_]] ++ #[.pointer (some ⟨Bv, 0, none⟩)]) W fun e w' => e = .returned (.bool (decide (f y ≤ f x))) ∧ Below W.heap.size W w' := by
  subst he
  have hb := h1.cell (i := 0) rfl
  have c0 := h2.cell hx
  have c1 := h2.cell hy
  have hx2 : (x : Int) < (m : Int) := by omega
  have hy2 : (y : Int) < (m : Int) := by omega
  have hs1 := h1.lt
  have hs2 := Blk.lt h2
  generalize f x = fx at *
  generalize f y = fy at *
  have HB := box ((Below.refl W.heap.size W).alloc (Nat.le_refl _) (.cells #[.int .i64 (x : Int), .int .i64 (y : Int)] 28))
  clear h1 h2
  show Calls Try.prog 15 #[.agg #[.int .i64 (x : Int), .int .i64 (y : Int)], .pointer (some ⟨Bv, 0, none⟩)] W _
  go_enter Try.func15, Try.ntmps15
  go_wp2_with fail
  go_quiet (fail)
  go_wp2_with fail
  go_ret
  exact ⟨rfl, HB.out.trans ⟨rfl, rfl, rfl, Nat.le_refl _, fun _ _ => rfl⟩⟩

set_option maxRecDepth 20000 in
set_option maxHeartbeats 8000000 in
theorem graphOrder_calls (n : Int) (L : List EgM) (ao : Option Addr) (cap : Nat) (w : World) (h : EgsAt w ao L) (hlen : L.length ≤ 8796093022207) :
    Calls Try.prog 3 #[.int .i64 n, .slice ao L.length cap] w fun e w' => e = .returned (.bool true) ∧ Below w.heap.size w w' := by
  have H := box h
  have HX := box (fun w ao h => order_x w ao h)
  clear h
  go_enter Try.func3, Try.ntmps3
  go_wp2_with fail
  refine (HX.out _ (some ⟨w.heap.size, 0, none⟩) (Or.inr ⟨w.heap.size, 0, rfl, by simp, fun k hk => by
    obtain rfl : k = 0 := by simp at hk; omega
    exact ⟨(Blk.new w [.int .i64 2, .int .i64 0] 28).cell rfl, (Blk.new w [.int .i64 2, .int .i64 0] 28).cell rfl⟩⟩)).mono ?_
  rintro e w1 ⟨v, rfl, ⟨ko, kc, rfl, hat⟩, hb1⟩
  have HB1 := box (((Below.refl _ _).alloc (Nat.le_refl _) _).trans (hb1.mono (by simp)))
  have HAt := box hat
  clear hat hb1
  go_wp2_with fail
  refine (equalInts_same [1, 2, 0] ko (some ⟨w1.heap.size, 0, none⟩) kc 3 _ (HAt.out.below ((Below.refl _ _).alloc (Nat.le_refl _) _) (Nat.le_refl _)) (Or.inr ⟨w1.heap.size, 0, rfl, by simp, fun k hk => by
    rw [Nat.zero_add]
    exact (Blk.new w1 (intVals [1, 2, 0]) 3).cell (intVals_get hk)⟩) (by simp)).mono ?_
  rintro e w2 ⟨rfl, n2, rfl⟩
  have HB2 : Box (Below w.heap.size w ((w1.alloc (.cells #[.int .i64 1, .int .i64 2, .int .i64 0] 3)).drewN n2)) := ⟨(HB1.out.alloc HB1.out.size _).trans ⟨rfl, rfl, rfl, Nat.le_refl _, fun _ _ => rfl⟩⟩
  generalize (w1.alloc (.cells #[.int .i64 1, .int .i64 2, .int .i64 0] 3)).drewN n2 = W2 at *
  clear HAt HB1
  go_wp2_with fail
  refine (graphOrder_any n L ao cap W2 (H.out.below HB2.out (Nat.le_refl _)) (by omega)).mono ?_
  rintro e W3 ⟨hb3, hc⟩
  have HB3 := box (below_tr HB2.out hb3)
  clear hb3
  rcases hc with ⟨hc0, rfl⟩ | ⟨hc0, hno, rfl⟩ | ⟨hc0, r, v, hr, rfl, hown⟩
  · have HC := box hc0
    have h11 : GrM.check n L = 1 ∨ GrM.check n L = 2 ∨ GrM.check n L = 4 := by
      unfold GrM.check at hc0 ⊢
      split
      · exact Or.inl rfl
      · split
        · exact Or.inr (Or.inl rfl)
        · split
          · rename_i h1 h2 h3; rw [if_neg h1, if_neg h2, if_pos h3] at hc0; exact absurd rfl hc0
          · exact Or.inr (Or.inr rfl)
    clear hc0
    rcases h11 with h1 | h1 | h1
    all_goals
      rw [h1]
      clear h1 HC
      go_wp2_with fail
      go_ret
      exact ⟨rfl, HB3.out⟩
  · obtain ⟨m, rfl, hm6, hl2, _⟩ := GrM.check_ok hc0
    rw [Int.toNat_natCast] at hno
    have HLp := box (GrM.order_none_iff.1 hno)
    have HC := box hc0
    clear hno hc0
    go_wp2_with fail
    go_loopw [38] (fun t38 wr => ∃ k : Nat, k ≤ m ∧ t38 = .int .i64 (k : Int) ∧ Box (Below w.heap.size w wr ∧ ∀ j, j < k → ¬ GrM.Path m L j j)) (fun t38 _ => m - (RowKit.intOf t38).toNat)
    case atStart => exact ⟨0, Nat.zero_le _, rfl, ⟨HB3.out, fun j h => by omega⟩⟩
    case round =>
      obtain ⟨k, hk, rfl, HR⟩ := hrel
      by_cases hkm : k < m
      case neg =>
        obtain ⟨a, ha, hp⟩ := HLp.out
        exact absurd hp (HR.out.2 a (by omega))
      have hkm2 : (k : Int) < (m : Int) := by omega
      go_wp2_with fail
      refine (graphReach_any m L k ao cap wr (H.out.below HR.out.1 (Nat.le_refl _)) (by omega)).mono ?_
      rintro e w5 ⟨hb5, hc⟩
      have HB5 := box (below_tr HR.out.1 hb5)
      clear hb5
      rcases hc with ⟨hc1, _⟩ | ⟨_, hc1, _⟩ | ⟨_, m2, x, S, v, hm2, hx, hxm, hS, rfl, hown⟩
      · exact absurd HC.out hc1
      · exfalso; omega
      obtain rfl : m = m2 := by omega
      obtain rfl : k = x := by omega
      obtain ⟨va, vc, rfl, _, hat, _, _⟩ := IntsAt.own hown
      have HCt := box (contains_ints (GrM.ints ((List.range m).filter S)) k va vc w5 hat (by rw [GrM.ints_len]; exact Nat.le_trans (List.length_filter_le _ _) (by simp; omega)))
      have HSk := box (hS k)
      have hmem : decide ((k : Int) ∈ GrM.ints ((List.range m).filter S)) = S k := by
        rw [Bool.eq_iff_iff, decide_eq_true_iff]
        unfold GrM.ints
        rw [List.mem_map]
        constructor
        · rintro ⟨y, hy, he⟩
          have : y = k := by omega
          subst this
          exact (List.mem_filter.1 hy).2
        · intro h
          exact ⟨k, List.mem_filter.2 ⟨List.mem_range.2 hkm, h⟩, rfl⟩
      rw [hmem] at HCt
      have HNo : Box (S k = false → ∀ j, j < k + 1 → ¬ GrM.Path m L j j) := ⟨fun h j hj => by
        by_cases e : j = k
        · subst e; intro hp; rw [HSk.out.2 hp] at h; cases h
        · exact HR.out.2 j (by omega)⟩
      clear hmem hS hown hat hm2 hx hxm
      obtain ⟨R, HRe⟩ : ∃ R, Box (GrM.ints ((List.range m).filter S) = R) := ⟨_, ⟨rfl⟩⟩
      rw [HRe.out] at HCt ⊢
      cases hSk : S k with
      | true =>
        rw [hSk] at HCt
        go_wp2_with fail
        refine HCt.out.mono ?_
        rintro e w6 ⟨rfl, rfl⟩
        go_wp2_with fail
        go_ret
        exact ⟨rfl, HB5.out⟩
      | false =>
        rw [hSk] at HCt
        have HNo2 := box (HNo.out hSk)
        go_wp2_with fail
        refine HCt.out.mono ?_
        rintro e w6 ⟨rfl, rfl⟩
        go_wp2_with fail
        go_roundw
        case rel => exact ⟨k + 1, by omega, by go_num, ⟨HB5.out, HNo2.out⟩⟩
        case measure => simp [RowKit.intOf]; omega
  · obtain ⟨m, rfl, hm6, hl2, hf⟩ := GrM.check_ok hc0
    rw [Int.toNat_natCast] at hr
    obtain ⟨hOut, hrl⟩ := GrM.order_ok hr
    have HOut := box hOut
    have HF := box hf
    obtain ⟨i0, hi0, hz0, hz1, hz2⟩ := info_parts Try.infoIntG
    have hmk := run_make_tab (P := Try.prog) W3 23 3 i0 (.int .i64 0) Try.underlying23 hi0 hz0 hz1 rfl m (by rw [hz2]; omega) (by omega)
    obtain ⟨ro, rc, rfl, _, hat, _, hrc⟩ := IntsAt.own hown
    rw [GrM.ints_len, hrl] at hrc ⊢
    have HRAt := box hat
    have HRl := box hrl
    obtain ⟨T, HTe⟩ : ∃ x, Box (W3.heap.size = x) := ⟨_, ⟨rfl⟩⟩
    have HS0 : Box (Below w.heap.size w ((W3.alloc (.cells (Tab m (fun _ => (Value.int .i64 0))).toArray 3)).alloc (.cells #[.slice (some ⟨T, 0, none⟩) m m] 23)) ∧ ITab ((W3.alloc (.cells (Tab m (fun _ => (Value.int .i64 0))).toArray 3)).alloc (.cells #[.slice (some ⟨T, 0, none⟩) m m] 23)) T m (GrM.pos r 0) ∧ Blk ((W3.alloc (.cells (Tab m (fun _ => (Value.int .i64 0))).toArray 3)).alloc (.cells #[.slice (some ⟨T, 0, none⟩) m m] 23)) (T + 1) 23 [.slice (some ⟨T, 0, none⟩) m m]) := ⟨by
      have h1 := HB3.out.size
      refine ⟨(HB3.out.alloc h1 _).alloc (by simp; omega) _, ?_, Blk.new' (by rw [World.size_alloc, HTe.out]) _ _⟩
      rw [← HTe.out]
      exact (Blk.new W3 (Tab m (fun _ => (Value.int .i64 0))) 3).alloc _⟩
    clear hr hOut hown hat hc0 hf hi0 hz0 hz1 hz2
    have HBT : Box (Below T W3 ((W3.alloc (.cells (Tab m (fun _ => (Value.int .i64 0))).toArray 3)).alloc (.cells #[.slice (some ⟨T, 0, none⟩) m m] 23))) := ⟨by
      rw [← HTe.out]
      exact ((Below.refl _ _).alloc (Nat.le_refl _) _).alloc (by simp) _⟩
    have hT0 : w.heap.size ≤ T := by have := HB3.out.size; have := HTe.out; omega
    go_wp2_with fail
    rw [HTe.out]
    generalize (W3.alloc (.cells (Tab m (fun _ => (Value.int .i64 0))).toArray 3)).alloc (.cells #[.slice (some ⟨T, 0, none⟩) m m] 23) = W4 at *
    clear hmk
    go_loopw [68] (fun t68 wr => ∃ i : Nat, i ≤ m ∧ t68 = .int .i64 (i : Int) ∧ Box (Below T W3 wr ∧ ITab wr T m (GrM.pos r i) ∧ Blk wr (T + 1) 23 [.slice (some ⟨T, 0, none⟩) m m])) (fun t68 _ => m - (RowKit.intOf t68).toNat)
    case atStart => exact ⟨0, Nat.zero_le _, rfl, ⟨HBT.out, HS0.out.2.1, HS0.out.2.2⟩⟩
    case round =>
      obtain ⟨i, hi, rfl, HR⟩ := hrel
      by_cases him : i < m
      case neg =>
        obtain rfl : i = m := by omega
        have HBw : Box (Below w.heap.size w wr) := ⟨HB3.out.trans (HR.out.1.mono hT0)⟩
        have HCF := box (containsFunc_egs L ao cap 15 #[.pointer (some ⟨T + 1, 0, none⟩)] (fun o => decide (GrM.pos r i o.to_.toNat ≤ GrM.pos r i o.frm.toNat)) wr (H.out.below HBw.out (Nat.le_refl _)) (by omega) (fun W hW o ho => by
          obtain ⟨x, y, he, hx, hy⟩ := HF.out o ho
          have h1 := graphOrder_f (T + 1) T i (GrM.pos r i) o x y he hx hy W (HR.out.2.2.below hW HR.out.2.2.lt) (Blk.below HR.out.2.1 hW (Blk.lt HR.out.2.1))
          subst he
          simpa using h1) (enters_fn Try.func15 (by kernel_rfl) rfl))
        have hany : (L.any fun o => decide (GrM.pos r i o.to_.toNat ≤ GrM.pos r i o.frm.toNat)) = false := by
          rw [List.any_eq_false]
          intro o ho
          obtain ⟨x, y, rfl, hx, hy⟩ := HF.out o ho
          have := GrM.pos_lt HOut.out HRl.out hx hy ho
          simp only [Int.toNat_natCast, decide_eq_true_eq]
          omega
        rw [hany] at HCF
        clear hany
        go_wp2_with fail
        refine HCF.out.mono ?_
        rintro e w6 ⟨rfl, hb6⟩
        have HB6 := box (below_tr HBw.out hb6)
        clear hb6
        go_wp2_with fail
        go_ret
        exact ⟨rfl, HB6.out⟩
      have hir : i < r.length := by rw [HRl.out]; exact him
      have hat := HRAt.out.below HR.out.1 (by rw [HTe.out]; exact Nat.le_refl _)
      obtain ⟨rb, roff, rfl, hrb, hrow⟩ := hat.resolve_left (by intro h; have := congrArg List.length h; rw [GrM.ints_len] at this; rw [List.length_nil] at this; omega)
      have c1 := hrow i (by rw [GrM.ints_len]; exact hir)
      have hy : r[i] < m := HOut.out.lt _ (List.getElem_mem hir)
      have hnew := GrM.take_new HOut.out.nodup hir
      have hst : GrM.pos r (i + 1) = upd (GrM.pos r i) (r[i]) i := by
        show upd (GrM.pos r i) (r.getD i 0) i = _
        rw [List.getD_eq_getElem?_getD, List.getElem?_eq_getElem hir]; rfl
      have HCt := box (contains_ints (GrM.ints (r.take i)) (r[i] : Nat) (some ⟨rb, roff, none⟩) rc wr (Or.inr ⟨rb, roff, rfl, hrb, fun k hk => by
        have hk' : k < i := by rw [GrM.ints_len, List.length_take] at hk; omega
        rw [hrow k (by rw [GrM.ints_len]; omega)]
        simp [GrM.ints]⟩) (by rw [GrM.ints_len, List.length_take]; omega))
      have hmem : decide (((r[i] : Nat) : Int) ∈ GrM.ints (r.take i)) = false := by
        rw [decide_eq_false_iff_not]
        unfold GrM.ints
        rw [List.mem_map]
        rintro ⟨y, hy1, he⟩
        have : y = r[i] := by omega
        subst this
        exact hnew hy1
      have htl : (GrM.ints (r.take i)).length = i := by rw [GrM.ints_len, List.length_take]; omega
      rw [hmem, htl] at HCt
      have hri : (GrM.ints r)[i]'(by rw [GrM.ints_len]; exact hir) = ((r[i] : Nat) : Int) := by simp [GrM.ints]
      rw [hri] at c1
      obtain ⟨y, HY⟩ : ∃ y, Box (r[i] = y) := ⟨_, ⟨rfl⟩⟩
      rw [HY.out] at c1 hy HCt hst
      have HSt := box hst
      have hy2 : (y : Int) < (m : Int) := by omega
      have d1 : decide (m ≤ y) = false := by simp; omega
      have d2 : decide ((y : Int) < 0) = false := by simp
      have hic : (i : Int) ≤ (rc : Int) := by omega
      have v0 := HR.out.2.2.cell (i := 0) rfl
      have t0 := HR.out.2.1.cell hy
      have z0 := Blk.frozen HR.out.2.1 y
      have HNx : Box (ITab (wr.setCell ⟨T, y, none⟩ (.int .i64 (i : Int))) T m (GrM.pos r (i + 1))) := ⟨by rw [HSt.out]; exact HR.out.2.1.set y i⟩
      have HNb : Box (Blk (wr.setCell ⟨T, y, none⟩ (.int .i64 (i : Int))) (T + 1) 23 [.slice (some ⟨T, 0, none⟩) m m]) := ⟨HR.out.2.2.other (by show T + 1 ≠ T; omega) _⟩
      generalize GrM.pos r i y = dd at *
      clear hrow hmem hnew hri hst htl hrb
      go_wp2_with fail
      refine HCt.out.mono ?_
      rintro e w6 ⟨rfl, rfl⟩
      go_wp2_with fail
      go_roundw
      case rel => exact ⟨i + 1, by omega, by go_num, ⟨HR.out.1.setCell (Nat.le_refl _) _, HNx.out, HNb.out⟩⟩
      case measure => simp [RowKit.intOf]; omega
namespace lawGraphOrder
open Go.ChangeShapes Go.WideShapes Go.ChangeAt Go.RowKit Go.ChangeMaps

set_option maxRecDepth 100000 in
theorem lifted (os : Os) (started : os.Started) (H : Type) (enc : TypeId × Value → H) :
    ReturnsInHanded {} Try.checked os 3 .any (Rows.graphOrderSpec.pre6 enc Try.prog Try.f3 [] false) (Rows.graphOrderSpec.post enc Try.prog Try.f3 false true false false) := by
  refine LawKit.law_lifted started (by kernel_rfl) Try.func3 rfl
    (fun ds h => by
      match ds, h with
      | [_, _], _ => rfl)
    rfl Try.underlying4 (by intro t ht; exact of_decide_eq_true (p := Try.prog.readableRec t = true ∧ t < Try.prog.types.size) (by revert t ht; decide +kernel))
    (ChangeSpec.witness6 (enc := enc) (C := Try.checked) false ⟨#[], #[.int .i64 0, .slice none 0 0], []⟩ 8 (by kernel_rfl) (by kernel_rfl) (by kernel_rfl) (by kernel_rfl)) ?_
  intro W base args ds ps hval hA hsz hlt hfz
  have hA' := hA
  rw [Try.params3] at hA hval
  obtain ⟨v0, vs0, d0, ds0, p0, q0, hargs, rfl, rfl, h0, r0⟩ := trodAll_cons hA
  obtain ⟨v1, vs1, d1, ds1, p1, q1, rfl, rfl, rfl, h1, r1⟩ := trodAll_cons r0
  obtain ⟨rfl, rfl, rfl⟩ := trodAll_nil r1
  obtain rfl : args = #[v0, v1] := by cases args; simp_all
  go_open 0 n
  obtain ⟨ao, cap, L, rfl, hat, _, _, hln⟩ := open_egs (hval 1 _ _ rfl rfl) h1 (Open.weights_bound hsz (j := 1) (by rw [Try.params3]; rfl) rfl)
  refine (graphOrder_calls n L ao cap W hat (by omega)).mono ?_
  rintro e W' ⟨rfl, hb⟩
  exact ⟨rfl, hb⟩

theorem proved : Rows.GraphOrderSaid :=
  OpenClaim.holds_of_wide 3 Try.f3 rfl rfl rfl rfl rfl rfl rfl ⟨rfl, rfl, rfl, rfl, rfl⟩ rfl rfl rfl rfl rfl (by kernel_rfl) Try.func3 (by kernel_rfl)
    (of_decide_eq_true (by kernel_rfl)) (by unfold Func.isWrapper; first | (rw [if_pos (by decide +kernel)]; kernel_rfl) | (rw [if_neg (by decide +kernel)]; exact ⟨rfl, rfl⟩))
    (fun os started H enc _ => lifted os started H enc)
end lawGraphOrder
end Go.Proofs.Ytagnhgdpipepeaa
