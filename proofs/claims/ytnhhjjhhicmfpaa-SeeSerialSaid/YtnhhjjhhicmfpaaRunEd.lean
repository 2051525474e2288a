/- run.Edges: what it answers. -/
import Derived.Test.YtnhhjjhhicmfpaaRunEnd
import Derived.Test.YtnhhjjhhicmfpaaRunCl
import Derived.Test.YtnhhjjhhicmfpaaGrM
import Derived.Test.YtnhhjjhhicmfpaaStampM
import Derived.Test.YtnhhjjhhicmfpaaRunCheck
import Derived.Test.YtnhhjjhhicmfpaaEg
import Derived.Test.YtnhhjjhhicmfpaaRowLaws
import Derived.Deep.RegionLaw
import Derived.Deep.AppendLies
namespace Go.Proofs.Ytnhhjjhhicmfpaa
section
open Go.RowKit Go.Lib
namespace RunM

/-- The edge that two operations make, if both transactions commit. -/
def hitE (l : List OpM) (x y : OpM) (a b : Nat) : Bool := clash x y && endB l 3 x.tx.toNat && endB l 3 y.tx.toNat && (x.tx == (a : Int)) && (y.tx == (b : Int))
def isAt (l : List OpM) (i n a b : Nat) : Bool := (List.range n).any fun j => decide (i < j) && hitE l l[i]! l[j]! a b
def isTo (l : List OpM) (k a b : Nat) : Bool := (List.range k).any fun i => isAt l i l.length a b
theorem isAt_succ (l : List OpM) (i n a b : Nat) (h : i < n) : isAt l i (n + 1) a b = (isAt l i n a b || hitE l l[i]! l[n]! a b) := by
  unfold isAt
  rw [List.range_succ, List.any_append]
  simp [h]
theorem isAt_low (l : List OpM) (i n a b : Nat) (h : n ≤ i + 1) : isAt l i n a b = false := by
  unfold isAt
  rw [List.any_eq_false]
  intro j hj
  have := List.mem_range.1 hj
  rw [decide_eq_false (by omega)]; simp
theorem isTo_succ (l : List OpM) (k a b : Nat) : isTo l (k + 1) a b = (isTo l k a b || isAt l k l.length a b) := by
  unfold isTo
  rw [List.range_succ, List.any_append]; simp
/-- The edges that start at a, up to b. -/
def edgesAt (l : List OpM) (a n : Nat) : List EgM := ((List.range n).filter fun b => isTo l l.length a b).map fun b : Nat => (⟨(a : Int), (b : Int)⟩ : EgM)
def edgesTo (l : List OpM) (m : Nat) : List EgM := (List.range m).flatMap fun a => edgesAt l a 12
def edges (l : List OpM) : List EgM := edgesTo l 12
theorem edgesAt_succ (l : List OpM) (a n : Nat) : edgesAt l a (n + 1) = edgesAt l a n ++ if isTo l l.length a n = true then [⟨(a : Int), (n : Int)⟩] else [] := by
  unfold edgesAt
  rw [List.range_succ, List.filter_append, List.map_append]
  congr 1
  cases h : isTo l l.length a n <;> simp [h]
theorem edgesTo_succ (l : List OpM) (m : Nat) : edgesTo l (m + 1) = edgesTo l m ++ edgesAt l m 12 := by
  unfold edgesTo
  rw [List.range_succ, List.flatMap_append]; simp
theorem edgesAt_len (l : List OpM) (a n : Nat) : (edgesAt l a n).length ≤ n := by
  unfold edgesAt
  rw [List.length_map]
  exact Nat.le_trans (List.length_filter_le _ _) (by simp)
theorem edgesTo_len (l : List OpM) (m : Nat) : (edgesTo l m).length ≤ m * 12 := by
  induction m with
  | zero => simp [edgesTo]
  | succ m ih =>
    rw [edgesTo_succ, List.length_append]
    have := edgesAt_len l m 12
    omega
theorem mem_edges {l : List OpM} {e : EgM} : e ∈ edges l ↔ ∃ a b : Nat, a < 12 ∧ b < 12 ∧ e = ⟨(a : Int), (b : Int)⟩ ∧ isTo l l.length a b = true := by
  unfold edges edgesTo edgesAt
  simp only [List.mem_flatMap, List.mem_range, List.mem_map, List.mem_filter]
  constructor
  · rintro ⟨a, ha, b, ⟨hb, h⟩, rfl⟩
    exact ⟨a, b, ha, hb, rfl, h⟩
  · rintro ⟨a, b, ha, hb, rfl, h⟩
    exact ⟨a, ha, b, ⟨hb, h⟩, rfl⟩
/-- The matrix, in the loops. -/
def mat (l : List OpM) (i n c : Nat) : Bool := isTo l i (c / 12) (c % 12) || isAt l i n (c / 12) (c % 12)
theorem mat_start (l : List OpM) (i c : Nat) : mat l i (i + 1) c = isTo l i (c / 12) (c % 12) := by
  unfold mat; rw [isAt_low l i (i + 1) _ _ (Nat.le_refl _)]; simp
theorem mat_end (l : List OpM) (i c : Nat) : mat l i l.length c = isTo l (i + 1) (c / 12) (c % 12) := by
  unfold mat; rw [isTo_succ]
theorem mat_same (l : List OpM) (i n c : Nat) (h : i < n) (hn : clash l[i]! l[n]! = false ∨ endB l 3 (l[i]!).tx.toNat = false ∨ endB l 3 (l[n]!).tx.toNat = false) : mat l i (n + 1) c = mat l i n c := by
  unfold mat
  rw [isAt_succ l i n _ _ h]
  have : ∀ a b, hitE l l[i]! l[n]! a b = false := by
    intro a b
    unfold hitE
    rcases hn with h | h | h <;> rw [h] <;> simp
  rw [this]; simp
theorem mat_hit (l : List OpM) (i n : Nat) (h : i < n) {a b : Nat} (hb : b < 12) (h1 : clash l[i]! l[n]! = true) (h2 : endB l 3 (l[i]!).tx.toNat = true) (h3 : endB l 3 (l[n]!).tx.toNat = true) (ea : (l[i]!).tx = (a : Int)) (eb : (l[n]!).tx = (b : Int)) :
    (fun c => mat l i (n + 1) c) = upd (fun c => mat l i n c) (a * 12 + b) true := by
  funext c
  unfold mat upd
  rw [isAt_succ l i n _ _ h]
  unfold hitE
  rw [h1, h2, h3, ea, eb]
  by_cases e : c = a * 12 + b
  · subst e
    rw [if_pos rfl]
    have e1 : (a * 12 + b) / 12 = a := by omega
    have e2 : (a * 12 + b) % 12 = b := by omega
    rw [e1, e2]; simp
  · rw [if_neg e]
    have : (((a : Int) == ((c / 12 : Nat) : Int)) && ((b : Int) == ((c % 12 : Nat) : Int))) = false := by
      rw [Bool.and_eq_false_iff]
      by_cases e1 : a = c / 12
      · right; simp; omega
      · left; simp; omega
    simp only [Bool.true_and]
    rw [this]; simp
end RunM
end
section
open Go.RowKit Go.Lib

theorem Try.infoEdR : (Try.prog.info? 71).map (fun i => (i.zero, i.size, i.bytes)) = some (some (.agg #[.int .i64 0, .int .i64 0]), 2, 16) := by kernel_rfl
/-- What run.Edges answers. -/
def RunM.EdgesPost (l : List OpM) (w : World) (e : Ending) (w' : World) : Prop :=
  Below w.heap.size w w' ∧ ((RunM.check l ≠ 0 ∧ e = .returned (.tuple #[.slice none 0 0, .int .i64 (RunM.check l)])) ∨
    (RunM.check l = 0 ∧ ∃ v, e = .returned (.tuple #[v, .int .i64 0]) ∧ w'.ownsRow w.heap.size 71 2 v (RunM.edges l).length (egVals (RunM.edges l))))
/-- Who committed, and the edges found so far. -/
structure RunM.EW (w : World) (D : Nat) (l : List OpM) (f : Nat → Bool) (W : World) : Prop where
  hD : w.heap.size ≤ D
  below : Below w.heap.size w W
  done : Blk W D 77 (endVals l 3)
  mat : Blk W (D + 1) 139 (Tab 144 fun c => .bool (f c))
theorem RunM.EW.after {w W W' : World} {D : Nat} {l : List OpM} {f : Nat → Bool} (h : RunM.EW w D l f W) (hb : Below W.heap.size W W') : RunM.EW w D l f W' :=
  ⟨h.hD, below_tr h.below hb, h.done.after hb, h.mat.after hb⟩
theorem RunM.EW.alloc {w W : World} {D : Nat} {l : List OpM} {f : Nat → Bool} (h : RunM.EW w D l f W) (o : Obj) : RunM.EW w D l f (W.alloc o) := h.after ((Below.refl _ _).alloc (Nat.le_refl _) o)

set_option maxRecDepth 100000 in
set_option maxHeartbeats 8000000 in
theorem edges_any (l : List OpM) (ao : Option Addr) (cap : Nat) (w : World) (h : OpsAt w ao l) (hf : RunM.Fits l) (hcap : l.length ≤ cap) (hc2 : cap ≤ 9000000000000) :
    Calls Try.prog 34 #[.slice ao l.length cap] w (RunM.EdgesPost l w) := by
  obtain ⟨i0, hi0, hz0, hz1, hz2⟩ := info_parts Try.infoEdR
  have H := box h
  have HC := box (runCheck_any l ao cap w h hf)
  have HK := box (fun hc : RunM.check l = 0 => RunM.check_ok hc)
  obtain ⟨c, Hc⟩ : ∃ x, Box (RunM.check l = x) := ⟨_, ⟨rfl⟩⟩
  rw [Hc.out] at HC
  clear h hf
  go_enter Try.func34, Try.ntmps34
  go_wp2_with fail
  refine HC.out.mono ?_
  rintro e w1 ⟨rfl, hb1⟩
  have HB1 := box hb1
  clear hb1 HC
  cases e0 : (c != 0) with
  | true =>
    have HE := box (bne_iff_ne.1 e0)
    go_wp2_with fail
    go_ret2
    exact ⟨HB1.out, Or.inl ⟨by rw [Hc.out]; exact HE.out, by rw [Hc.out]; rfl⟩⟩
  | false =>
  obtain rfl : c = 0 := by simpa using e0
  have hK := HK.out Hc.out
  have hl := hK.1
  have HT : Box (∀ o ∈ l, 0 ≤ o.tx ∧ o.tx < 12) := ⟨fun o ho => by have := RunM.bad_zero (hK.2.2 o ho); omega⟩
  clear hK HK
  obtain ⟨N, HN⟩ : ∃ N, Box (l.length = N) := ⟨_, ⟨rfl⟩⟩
  rw [HN.out] at hl hcap ⊢
  go_wp2_with fail
  have HEn := box (ended_any l 3 ao cap w1 (H.out.below HB1.out (Nat.le_refl _)) (by rw [HN.out]; omega) HT.out)
  rw [HN.out] at HEn
  refine HEn.out.mono ?_
  rintro e w2 ⟨rfl, hb2⟩
  have HB2 := box (below_tr HB1.out hb2)
  clear hb2 HEn
  have hlenV : (endVals l 3).toArray.size = 12 := by rw [List.size_toArray]; exact Tab_len _ _
  have hsz : (Try.prog.info? 77).map (·.size) = some (endVals l 3).toArray.size := by rw [hlenV]; kernel_rfl
  have hone : (endVals l 3).toArray.all (·.oneCell') = true := all_oneCell_toArray (by
    intro u hu
    unfold endVals Tab at hu
    obtain ⟨i, _, rfl⟩ := List.mem_map.1 hu
    rfl)
  have hold : ∀ cs : Array Value, cs.size = 12 → cs.size = (endVals l 3).toArray.size := fun cs h => by rw [h, hlenV]
  have Hsz := box hsz; have Hone := box hone; have Hold := box hold
  clear hlenV hsz hone hold
  obtain ⟨L, HL⟩ : ∃ L, Box (endVals l 3 = L) := ⟨_, ⟨rfl⟩⟩
  rw [HL.out] at Hsz Hone Hold ⊢
  go_upto_region 5 with (refine wpList_store_new rfl 77 (.tmp 5) (.tmp 20) rfl L.toArray (by rfl) (by rfl) 77 _ Hsz.out (Hold.out _ rfl) Hone.out ?_)
  go_upto_region 6 with (fail)
  have hs2 := HB2.out.size
  refine name_world (fun W => RunM.EW w w2.heap.size l (fun c => RunM.isTo l 0 (c / 12) (c % 12)) W) ⟨hs2, (HB2.out.alloc hs2 _).alloc (by simp; omega) _, by rw [HL.out]; exact (Blk.new w2 L _).alloc _, ?_⟩ ?_
  · exact Blk.new' (by simp) (Tab 144 fun c => .bool (RunM.isTo l 0 (c / 12) (c % 12))) _
  intro W hW
  have HW := box hW
  clear hW hs2 HB2 HB1
  generalize w2.heap.size = D at *
  go_wp2_with fail
  go_loopw [23] (fun t23 wr => ∃ i : Nat, i ≤ N ∧ t23 = .int .i64 (i : Int) ∧ Box (RunM.EW w D l (fun c => RunM.isTo l i (c / 12) (c % 12)) wr)) (fun t23 _ => N - (RowKit.intOf t23).toNat)
  case atStart => exact ⟨0, Nat.zero_le _, rfl, HW⟩
  case round =>
    obtain ⟨i, hi, rfl, HE⟩ := hrel
    clear HW
    by_cases hlt : i < N
    · have hil : i < l.length := by rw [HN.out]; exact hlt
      obtain ⟨b, off, rfl, _, hrow⟩ := ((H.out.below HE.out.below (Nat.le_refl _)).resolve_left (by intro h; rw [h] at hil; simp at hil))
      obtain ⟨hc0, hc1, hc2'⟩ := hrow i hil
      obtain ⟨x, hx⟩ : ∃ x, l[i] = x := ⟨_, rfl⟩
      have Hx : Box (l[i]! = x) := ⟨by rw [getElem!_pos l i hil]; exact hx⟩
      rw [hx] at hc0 hc1 hc2'
      have Hxi := box (HT.out x (by rw [← hx]; exact List.getElem_mem hil))
      obtain ⟨x0, x1, x2⟩ := x
      simp only at hc0 hc1 hc2'
      clear hrow hx
      have HRow : Box (∀ wx, Below w.heap.size w wx → ∀ j (h : j < l.length), wx.cell? ⟨b, off + j * 3, none⟩ = some (.int .i64 l[j].tx) ∧ wx.cell? ⟨b, off + j * 3 + 1, none⟩ = some (.int .i64 l[j].kind) ∧ wx.cell? ⟨b, off + j * 3 + 2, none⟩ = some (.int .i64 l[j].item)) := ⟨fun wx hb j hj => by
        obtain ⟨b', off', e, _, hrow⟩ := ((H.out.below hb (Nat.le_refl _)).resolve_left (by intro h; rw [h] at hj; simp at hj))
        simp only [Option.some.injEq, Addr.mk.injEq, and_true] at e
        obtain ⟨rfl, rfl⟩ := e
        exact hrow j hj⟩
      go_upto_region 9 with (fail)
      refine name_world (fun W => RunM.EW w D l (fun c => RunM.isTo l i (c / 12) (c % 12)) W ∧ Blk W wr.heap.size 25 [.int .i64 x0, .int .i64 x1, .int .i64 x2]) ⟨HE.out.alloc _, Blk.new _ _ _⟩ ?_
      rintro W2 ⟨hw1, hk1⟩
      have HW2 := box hw1; have HK2 := box hk1
      have hbb := HE.out.below.size
      clear hw1 hk1 hc0 hc1 hc2' HE
      generalize wr.heap.size = A at *
      by_cases hcq : cap = i + 1
      · have hN : N = i + 1 := by omega
        have HEq : Box (∀ c, RunM.isTo l (i + 1) (c / 12) (c % 12) = RunM.isTo l i (c / 12) (c % 12)) := ⟨fun c => by
          rw [← RunM.mat_end, ← RunM.mat_start l i c, HN.out, hN]⟩
        have hz : decide (0 < N - (i + 1)) = false := decide_eq_false (by omega)
        have hHN := box hN
        clear hN
        subst hcq
        go_wp2_with fail
        go_loopw [33] (fun t33 wr => t33 = .int .i64 0 ∧ wr = W2) (fun _ _ => 0)
        case atStart => exact ⟨rfl, rfl⟩
        case round =>
          obtain ⟨rfl, rfl⟩ := hrel
          go_wp2_with fail
          go_roundw
          case rel => exact ⟨i + 1, hlt, by go_num, ⟨by simp only [HEq.out]; exact HW2.out⟩⟩
          case measure => simp [intOf]; omega
      · have HS : Box (RunM.EW w D l (fun c => RunM.mat l i (i + 1 + 0) c) W2) := ⟨by
          simp only [Nat.add_zero, RunM.mat_start]; exact HW2.out⟩
        clear HW2
        have HEnd : Box (∀ c, RunM.isTo l (i + 1) (c / 12) (c % 12) = RunM.mat l i N c) := ⟨fun c => by rw [← RunM.mat_end, HN.out]⟩
        go_wp2_with fail
        go_loopw [33] (fun t33 wr => ∃ m : Nat, m ≤ N - (i + 1) ∧ t33 = .int .i64 (m : Int) ∧ Box (RunM.EW w D l (fun c => RunM.mat l i (i + 1 + m) c) wr ∧ Blk wr A 25 [.int .i64 x0, .int .i64 x1, .int .i64 x2])) (fun t33 _ => N - (RowKit.intOf t33).toNat)
        case atStart => exact ⟨0, Nat.zero_le _, rfl, ⟨HS.out, HK2.out⟩⟩
        case round =>
          obtain ⟨m, hm, rfl, HE⟩ := hrel
          clear HS HK2
          by_cases hmt : m < N - (i + 1)
          · have hjl : i + 1 + m < l.length := by rw [HN.out]; omega
            obtain ⟨hc0, hc1, hc2'⟩ := HRow.out wr HE.out.1.below _ hjl
            obtain ⟨y, hy⟩ : ∃ y, l[i + 1 + m] = y := ⟨_, rfl⟩
            have Hy : Box (l[i + 1 + m]! = y) := ⟨by rw [getElem!_pos l (i + 1 + m) hjl]; exact hy⟩
            have Hyi := box (HT.out y (by rw [← hy]; exact List.getElem_mem hjl))
            rw [hy, show off + (i + 1 + m) * 3 = off + (i + 1) * 3 + m * 3 by omega] at hc0 hc1 hc2'
            obtain ⟨y0, y1, y2⟩ := y
            simp only at hc0 hc1 hc2'
            clear hy
            have hqm : decide (m < N - (i + 1)) = true := decide_eq_true hmt
            go_upto_region 12 with (fail)
            have hAl := HE.out.2.lt
            refine name_world (fun W => RunM.EW w D l (fun c => RunM.mat l i (i + 1 + m) c) W ∧ Blk W A 25 [.int .i64 x0, .int .i64 x1, .int .i64 x2] ∧ Blk W wr.heap.size 25 [.int .i64 y0, .int .i64 y1, .int .i64 y2]) ⟨HE.out.1.alloc _, HE.out.2.alloc _, Blk.new _ _ _⟩ ?_
            rintro W3 ⟨hw3, hk3, hk4⟩
            have HW3 := box hw3; have HK3 := box hk3; have HK4 := box hk4
            have a0 := hk3.cell (i := 0) rfl
            have a1 := hk3.cell (i := 1) rfl
            have a2 := hk3.cell (i := 2) rfl
            have b0 := hk4.cell (i := 0) rfl
            have b1 := hk4.cell (i := 1) rfl
            have b2 := hk4.cell (i := 2) rfl
            clear hw3 hk3 hk4 hc0 hc1 hc2' HE hAl
            generalize wr.heap.size = A2 at *
            go_wp2_with fail
            refine (clash_any ⟨x0, x1, x2⟩ ⟨y0, y1, y2⟩ W3).mono ?_
            rintro e W4 ⟨rfl, hb4⟩
            have HW4 := box (HW3.out.after hb4)
            have HK5 := box (HK3.out.after hb4)
            have HK6 := box (HK4.out.after hb4)
            clear hb4 a0 a1 a2 b0 b1 b2 HW3 HK3 HK4
            have HSm : Box ((RunM.clash ⟨x0, x1, x2⟩ ⟨y0, y1, y2⟩ = false ∨ RunM.endB l 3 x0.toNat = false ∨ RunM.endB l 3 y0.toNat = false) → RunM.EW w D l (fun c => RunM.mat l i (i + 1 + (m + 1)) c) W4) := ⟨fun h => by
              have e : (fun c => RunM.mat l i (i + 1 + (m + 1)) c) = fun c => RunM.mat l i (i + 1 + m) c := by
                funext c
                have h2 := RunM.mat_same l i (i + 1 + m) c (by omega) (by rw [Hx.out, Hy.out]; exact h)
                rwa [show i + 1 + m + 1 = i + 1 + (m + 1) by omega] at h2
              rw [e]
              exact HW4.out⟩
            obtain ⟨v, Hv⟩ : ∃ v, Box (RunM.clash ⟨x0, x1, x2⟩ ⟨y0, y1, y2⟩ = v) := ⟨_, ⟨rfl⟩⟩
            rw [Hv.out] at HSm ⊢
            cases v with
            | false =>
              go_wp2_with fail
              go_roundw
              case rel => exact ⟨m + 1, by omega, by go_num, ⟨HSm.out (by simp), HK5.out⟩⟩
              case measure => simp [intOf]; omega
            | true =>
            obtain ⟨a, rfl⟩ := Int.eq_ofNat_of_zero_le Hxi.out.1
            obtain ⟨b', rfl⟩ := Int.eq_ofNat_of_zero_le Hyi.out.1
            have ha : a < 12 := by have := Hxi.out.2; omega
            have hb : b' < 12 := by have := Hyi.out.2; omega
            have hai : (a : Int) < 12 := by omega
            have hbi : (b' : Int) < 12 := by omega
            have a0 := HK5.out.cell (i := 0) rfl
            have b0 := HK6.out.cell (i := 0) rfl
            have d0 := HW4.out.done.tabCell ha
            have d1 := HW4.out.done.tabCell hb
            have HHit := box (fun h2 h3 => RunM.mat_hit l i (i + 1 + m) (by omega) hb (by rw [Hx.out, Hy.out]; exact Hv.out) h2 h3 (by rw [Hx.out]) (by rw [Hy.out]))
            rw [Hx.out, Hy.out] at HHit
            simp only [Int.toNat_natCast] at HSm HHit
            obtain ⟨pa, Hpa⟩ : ∃ pa, Box (RunM.endB l 3 a = pa) := ⟨_, ⟨rfl⟩⟩
            obtain ⟨pb, Hpb⟩ : ∃ pb, Box (RunM.endB l 3 b' = pb) := ⟨_, ⟨rfl⟩⟩
            rw [Hpa.out] at d0 HSm HHit
            rw [Hpb.out] at d1 HSm HHit
            cases pa with
            | false =>
              clear d1
              go_wp2_with fail
              go_roundw
              case rel => exact ⟨m + 1, by omega, by go_num, ⟨HSm.out (by simp), HK5.out⟩⟩
              case measure => simp [intOf]; omega
            | true =>
            cases pb with
            | false =>
              go_wp2_with fail
              go_roundw
              case rel => exact ⟨m + 1, by omega, by go_num, ⟨HSm.out (by simp), HK5.out⟩⟩
              case measure => simp [intOf]; omega
            | true =>
            have hmi : a * 12 + b' < 144 := by omega
            have m0 := HW4.out.mat.tabCell hmi
            have m1 := HW4.out.mat.frozen (a * 12 + b')
            have hAD : D + 1 ≠ A := by
              have h1 := HW4.out.mat; have h2 := HK5.out
              exact h1.ne h2 (by decide)
            have HF : Box (RunM.EW w D l (fun c => RunM.mat l i (i + 1 + (m + 1)) c) (W4.drew.setCell ⟨D + 1, a * 12 + b', none⟩ (.bool true)) ∧ Blk (W4.drew.setCell ⟨D + 1, a * 12 + b', none⟩ (.bool true)) A 25 [.int .i64 (a : Int), .int .i64 x1, .int .i64 x2]) := ⟨⟨⟨HW4.out.hD, HW4.out.below.drew.setCell (by have := HW4.out.hD; show _ ≤ D + 1; omega) _, (HW4.out.done.drew).other (by simp) _, by
                have := (HW4.out.mat.drew).tabSet (a * 12 + b') (.bool true)
                have e := HHit.out rfl rfl
                rw [show i + 1 + m + 1 = i + 1 + (m + 1) by omega] at e
                rw [show (upd (fun c => Value.bool (RunM.mat l i (i + 1 + m) c)) (a * 12 + b') (.bool true)) = fun c => Value.bool (RunM.mat l i (i + 1 + (m + 1)) c) from by
                  funext c
                  rw [show RunM.mat l i (i + 1 + (m + 1)) c = upd (fun c => RunM.mat l i (i + 1 + m) c) (a * 12 + b') true c from congrFun e c]
                  unfold upd; split <;> rfl] at this
                exact this⟩, (HK5.out.drew).other (by simpa using Ne.symm hAD) _⟩⟩
            go_upto_region 13 with (fail)
            refine wp_meetF (fun wx => RunM.EW w D l (fun c => RunM.mat l i (i + 1 + (m + 1)) c) wx ∧ Blk wx A 25 [.int .i64 (a : Int), .int .i64 x1, .int .i64 x2]) ?_
            apply Exists.intro
            constructor
            · obtain ⟨gg, gk, _⟩ : ∃ _ _ : Nat, True := ⟨0, 0, trivial⟩
              go_region_law (fail)
              all_goals exact ⟨gg, gk, rfl, HF.out⟩
            · intro gg gk wx hcut
              obtain ⟨hw5, hk5⟩ := hcut
              have HW5 := box hw5; have HK7 := box hk5
              clear hw5 hk5 a0 b0 d0 d1 m0
              go_wp2_with fail
              go_roundw
              case rel => exact ⟨m + 1, by omega, by go_num, ⟨HW5.out, HK7.out⟩⟩
              case measure => simp [intOf]; omega
          · go_wp2_with fail
            go_roundw
            case rel => exact ⟨i + 1, hlt, by go_num, ⟨by
              obtain rfl : m = N - (i + 1) := by omega
              have := HE.out.1
              rw [show i + 1 + (N - (i + 1)) = N by omega] at this
              simp only [HEnd.out]; exact this⟩⟩
            case measure => simp [intOf]; omega
    · have HW2 : Box (RunM.EW w D l (fun c => RunM.isTo l l.length (c / 12) (c % 12)) wr) := ⟨by
        obtain rfl : i = N := by omega
        rw [HN.out]; exact HE.out⟩
      clear HE
      go_wp2_with fail
      go_loopw [11, 60] (fun t11 t60 wr => ∃ (a : Nat) (v : Value), a ≤ 12 ∧ v = t11 ∧ t60 = .int .i64 (a : Int) ∧ Box (RunM.EW w D l (fun c => RunM.isTo l l.length (c / 12) (c % 12)) wr ∧ wr.ownsRow w.heap.size 71 2 v (RunM.edgesTo l a).length (egVals (RunM.edgesTo l a)))) (fun _ t60 _ => 12 - (RowKit.intOf t60).toNat)
      case atStart => exact ⟨0, _, by omega, rfl, rfl, ⟨HW2.out, World.ownsRow_nil _ _ _ _⟩⟩
      case round =>
        obtain ⟨a, v, ha, rfl, rfl, HR⟩ := hrel
        clear HW2
        by_cases ha12 : a < 12
        · have hai : (a : Int) < 12 := by omega
          have HS : Box (RunM.edgesTo l a ++ RunM.edgesAt l a 0 = RunM.edgesTo l a) := ⟨by simp [RunM.edgesAt]⟩
          have HS2 := box (RunM.edgesTo_succ l a)
          have hel := RunM.edgesTo_len l a
          go_wp2_with fail
          go_loopw [11, 63] (fun t11 t63 wr => ∃ (b : Nat) (v : Value), b ≤ 12 ∧ v = t11 ∧ t63 = .int .i64 (b : Int) ∧ Box (RunM.EW w D l (fun c => RunM.isTo l l.length (c / 12) (c % 12)) wr ∧ wr.ownsRow w.heap.size 71 2 v (RunM.edgesTo l a ++ RunM.edgesAt l a b).length (egVals (RunM.edgesTo l a ++ RunM.edgesAt l a b)))) (fun _ t63 _ => 12 - (RowKit.intOf t63).toNat)
          case atStart => exact ⟨0, _, by omega, rfl, rfl, ⟨HR.out.1, by rw [HS.out]; exact HR.out.2⟩⟩
          case round =>
            obtain ⟨b, v2, hb, rfl, rfl, HR2⟩ := hrel
            clear HR
            by_cases hb12 : b < 12
            · have hbi : (b : Int) < 12 := by omega
              have hmi : a * 12 + b < 144 := by omega
              have m0 := HR2.out.1.mat.tabCell hmi
              rw [show (a * 12 + b) / 12 = a by omega, show (a * 12 + b) % 12 = b by omega] at m0
              have HT2 := box (RunM.edgesAt_succ l a b)
              have hel2 := RunM.edgesAt_len l a b
              obtain ⟨u, Hu⟩ : ∃ u, Box (RunM.isTo l l.length a b = u) := ⟨_, ⟨rfl⟩⟩
              rw [Hu.out] at m0 HT2
              have hlen2 : (RunM.edgesTo l a ++ RunM.edgesAt l a b).length ≤ 144 := by rw [List.length_append]; omega
              have HE2 : Box (RunM.edgesTo l a ++ RunM.edgesAt l a (b + 1) = (RunM.edgesTo l a ++ RunM.edgesAt l a b) ++ if u = true then [⟨(a : Int), (b : Int)⟩] else []) := ⟨by rw [HT2.out, List.append_assoc]⟩
              generalize RunM.edgesTo l a ++ RunM.edgesAt l a b = ms at *
              clear hel hel2 HS HS2 HT2
              have hbs := HR2.out.1.below.size
              cases u with
              | false =>
                go_wp2_with fail
                go_roundw
                case rel =>
                  refine ⟨b + 1, _, by omega, rfl, by go_num, ⟨HR2.out.1, ?_⟩⟩
                  rw [HE2.out, if_neg (by simp), List.append_nil]
                  exact HR2.out.2
                case measure => simp [intOf]; omega
              | true =>
                have hown2 := (HR2.out.2).alloc (.cells #[.int .i64 (a : Int), .int .i64 (b : Int)] 71)
                have HD := box (HR2.out.1.alloc (.cells #[.int .i64 (a : Int), .int .i64 (b : Int)] 71))
                have hne := HD.out.done.ne_own hown2 (by decide)
                have hne2 := HD.out.mat.ne_own hown2 (by decide)
                have Hne := box hne; have Hne2 := box hne2
                clear hne hne2
                go_wp2_with (at_builtin; go_must (refine wpList_append_own _ rfl _ _ 67 rfl w.heap.size 71 i0 _ 2 16 Try.underlying67 hi0 hz0 hz1 hz2 rfl (by decide) _ _ _ rfl hown2 ⟨wr.heap.size, 0, none⟩ 1 1 [.int .i64 (a : Int), .int .i64 (b : Int)] rfl rfl (cells_new wr [.int .i64 (a : Int), .int .i64 (b : Int)] 71) (by simp [Value.oneCell']) (by unfold maxLen; omega) (by omega) (by simp; omega) ?_))
                intro v' w9 hown3 hgrow _
                have hB9 : Below w.heap.size w w9 := HD.out.below.grown hgrow (by simp; omega) (fun b hb => (HR2.out.2.lt b hb).1)
                have HE9 : Box (RunM.EW w D l (fun c => RunM.isTo l l.length (c / 12) (c % 12)) w9) := ⟨⟨HD.out.hD, hB9, HD.out.done.grown hgrow Hne.out, HD.out.mat.grown hgrow Hne2.out⟩⟩
                have HO := box hown3
                clear hown3 hgrow hown2 hB9 m0
                go_wp2_with fail
                go_roundw
                case rel =>
                  refine ⟨b + 1, _, by omega, rfl, by go_num, ⟨HE9.out, ?_⟩⟩
                  rw [HE2.out, if_pos trivial, egVals_append, List.length_append]
                  exact HO.out
                case measure => simp [intOf]; omega
            · obtain rfl : b = 12 := by omega
              go_wp2_with fail
              go_roundw
              case rel =>
                refine ⟨a + 1, _, by omega, rfl, by go_num, ⟨HR2.out.1, ?_⟩⟩
                rw [HS2.out]
                exact HR2.out.2
              case measure => simp [intOf]; omega
        · obtain rfl : a = 12 := by omega
          go_wp2_with fail
          go_ret2
          exact ⟨HR.out.1.below, Or.inr ⟨Hc.out, _, rfl, HR.out.2⟩⟩
end
end Go.Proofs.Ytnhhjjhhicmfpaa
