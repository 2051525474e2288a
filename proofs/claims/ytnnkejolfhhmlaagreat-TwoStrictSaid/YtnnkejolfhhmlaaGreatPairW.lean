/- run.pairs: what it computes. -/
import Derived.Test.YtnnkejolfhhmlaaGreatPairS
import Derived.Test.YtnnkejolfhhmlaaGreatMake
import Derived.Test.YtnnkejolfhhmlaaGreatGrOR
import Derived.Deep.RegionHeld3
import Derived.Deep.RegionLaw
import Derived.Deep.AppendLies
namespace Go.Proofs.YtnnkejolfhhmlaaGreat
open Go.RowKit Go.Lib Go.Sort

theorem Tryz.infoPair : (Tryz.prog.info? 81).map (fun i => (i.zero, i.size, i.bytes)) = some (some (.agg #[.int .i64 0, .int .i64 0, .int .i64 0, .int .i64 0]), 4, 32) := by kernel_rfl
theorem Tryz.infoIntP : (Tryz.prog.info? 3).map (fun i => (i.zero, i.size, i.bytes)) = some (some (.int .i64 0), 1, 8) := by kernel_rfl

/-- All orders come to one frame, but for two numbers that the world knows, too. -/
def MetG (F : Nat → Nat → Act) (R : Nat → Nat → World → Prop) : Exit → Act → World → Prop
  | .normal, a, w => ∃ g k, a = F g k ∧ R g k w
  | _, _, _ => False
theorem wp_meetG {P : Program} {c : Code} {Q : Exit → Act → World → Prop} {a : Act} {w : World} (R : Nat → Nat → World → Prop)
    (h : ∃ F : Nat → Nat → Act, Code.wp P c (MetG F R) a w ∧ ∀ g k w', R g k w' → Q .normal (F g k) w') : Code.wp P c Q a w := by
  obtain ⟨F, h1, h2⟩ := h
  refine wp_mono h1 ?_
  intro e a' w' h
  cases e <;> first | exact h.elim | (obtain ⟨g, k, rfl, hR⟩ := h; exact h2 g k w' hR)

/-- How many of the first k operations are transaction t's. -/
def RunM.cnt (l : List OpM) (k t : Nat) : Nat := (l.take k).countP fun o => o.tx == (t : Int)
theorem RunM.cnt_succ {l : List OpM} {k : Nat} (h : k < l.length) {t : Nat} (ht : l[k].tx = (t : Int)) : (fun s => (RunM.cnt l (k + 1) s : Int)) = upd (fun s => (RunM.cnt l k s : Int)) t ((RunM.cnt l k t : Int) + 1) := by
  funext s
  unfold RunM.cnt upd
  rw [List.take_succ_eq_append_getElem h, List.countP_append, List.countP_singleton, ht]
  by_cases e : s = t
  · subst e; simp
  · rw [if_neg e, if_neg (by simp; omega)]; simp
theorem RunM.cnt_ord {l : List OpM} {k : Nat} (h : k < l.length) {t : Nat} (ht : l[k].tx = (t : Int)) : RunM.ord l k = RunM.cnt l k t := by
  unfold RunM.ord RunM.cnt
  rw [getElem!_pos l k h, ht]
theorem RunM.cnt_le (l : List OpM) (k t : Nat) : RunM.cnt l k t ≤ l.length := by
  unfold RunM.cnt
  refine Nat.le_trans List.countP_le_length ?_
  simp; omega
/-- The numbers found so far, up to place k. -/
def RunM.half (l : List OpM) (k j : Nat) : Int := if j < k then (RunM.ord l j : Int) else 0
theorem RunM.half_succ (l : List OpM) (k : Nat) : RunM.half l (k + 1) = upd (RunM.half l k) k (RunM.ord l k : Int) := by
  funext j
  unfold RunM.half upd
  by_cases e : j = k
  · subst e; simp
  · rw [if_neg e]
    by_cases h : j < k
    · have h2 : j < k + 1 := by omega
      simp [h, h2]
    · have h2 : ¬ j < k + 1 := by omega
      simp [h, h2]

/-- The first loop: how many there are of each, and which one each is. -/
structure RunM.PL (w : World) (l : List OpM) (k : Nat) (W : World) : Prop where
  below : Below w.heap.size w W
  num : Blk W w.heap.size 70 (Tab 12 fun s => Value.int .i64 (RunM.cnt l k s : Int))
  at_ : ITab W (w.heap.size + 1) l.length (RunM.half l k)
theorem RunM.PL.next {w W : World} {l : List OpM} {k : Nat} (h : RunM.PL w l k W) (hk : k < l.length) {t : Nat} (ht : l[k].tx = (t : Int)) (o : Obj) (u1 u2 : Int) (h1 : u1 = RunM.cnt l k t) (h2 : u2 = RunM.cnt l k t + 1) :
    RunM.PL w l (k + 1) (((W.setCell ⟨w.heap.size + 1, k, none⟩ (.int .i64 u1)).setCell ⟨w.heap.size, t, none⟩ (.int .i64 u2)).alloc o) := by
  have e1 := RunM.half_succ l k
  rw [RunM.cnt_ord hk ht, ← h1] at e1
  have e2 := RunM.cnt_succ hk ht
  rw [← h2] at e2
  refine ⟨((h.below.setCell (by simp) _).setCell (Nat.le_refl _) _).alloc (by simp; exact h.below.size) _, ?_, ?_⟩
  · have := ((h.num.other (p := ⟨w.heap.size + 1, k, none⟩) (by simp) (.int .i64 u1)).tabSet t (.int .i64 u2)).alloc o
    rw [show (upd (fun s => Value.int .i64 (RunM.cnt l k s : Int)) t (.int .i64 u2)) = fun s => Value.int .i64 (RunM.cnt l (k + 1) s : Int) from by
      funext s
      have e3 : (RunM.cnt l (k + 1) s : Int) = upd (fun s => (RunM.cnt l k s : Int)) t u2 s := congrFun e2 s
      rw [e3]
      unfold upd; split <;> rfl] at this
    exact this
  · rw [e1]
    exact Blk.alloc (Blk.other (h.at_.set k u1) (p := ⟨w.heap.size, t, none⟩) (by simp) _) o

/-- The loops behind: the pairs found so far. -/
structure RunM.PW (w : World) (l : List OpM) (v : Value) (out : List PairM) (W : World) : Prop where
  below : Below w.heap.size w W
  at_ : ITab W (w.heap.size + 1) l.length (fun j => (RunM.ord l j : Int))
  own : W.ownsRow w.heap.size 81 4 v out.length (prVals out)
theorem RunM.PL.all {w W : World} {l : List OpM} (h : RunM.PL w l l.length W) : RunM.PW w l (.slice none 0 0) [] W :=
  ⟨h.below, h.at_.congr (fun i hi => by simp [RunM.half, hi]), World.ownsRow_nil _ _ _ _⟩
theorem RunM.PW.after {w W W' : World} {l : List OpM} {v : Value} {out : List PairM} (h : RunM.PW w l v out W) (hb : Below W.heap.size W W') : RunM.PW w l v out W' :=
  ⟨below_tr h.below hb, Blk.after h.at_ hb, (ownsRow_below h.own hb)⟩
theorem RunM.PW.alloc {w W : World} {l : List OpM} {v : Value} {out : List PairM} (h : RunM.PW w l v out W) (o : Obj) : RunM.PW w l v out (W.alloc o) := h.after ((Below.refl _ _).alloc (Nat.le_refl _) o)
set_option maxRecDepth 20000 in
set_option maxHeartbeats 4000000 in
theorem pairs_any (l : List OpM) (ao : Option Addr) (cap : Nat) (w : World) (h : OpsAt w ao l) (hl : l.length ≤ 200) (ht : ∀ o ∈ l, 0 ≤ o.tx ∧ o.tx < 12) :
    Calls Tryz.prog 32 #[.slice ao l.length cap] w fun e w' => (∃ v, e = .returned v ∧ w'.ownsRow w.heap.size 81 4 v (PairM.sorted (RunM.pairs l)).length (prVals (PairM.sorted (RunM.pairs l)))) ∧ Below w.heap.size w w' := by
  obtain ⟨i0, hi0, hz0, hz1, hz2⟩ := info_parts Tryz.infoIntP
  have H := box h; have HT := box ht
  clear h ht
  obtain ⟨N, HN⟩ : ∃ N, Box (l.length = N) := ⟨_, ⟨rfl⟩⟩
  rw [HN.out] at hl ⊢
  go_enter Tryz.func32, Tryz.ntmps32
  go_upto_region 2 with (fail)
  refine name_world (fun W => W.heap.size = w.heap.size + 1 ∧ Below w.heap.size w W ∧ Blk W w.heap.size 70 (Tab 12 fun s => Value.int .i64 (RunM.cnt l 0 s : Int))) ⟨by simp, (Below.refl _ _).alloc (Nat.le_refl _) _, Blk.new w (Tab 12 fun _ => Value.int .i64 0) _⟩ ?_
  rintro W ⟨hWs, hWb, hWn⟩
  have hmk := run_make_tab (P := Tryz.prog) W 23 3 i0 (.int .i64 0) Tryz.underlying23 hi0 hz0 hz1 rfl N (by rw [hz2]; omega) (by omega)
  rw [hWs] at hmk
  obtain ⟨W2, HW2⟩ : ∃ x, Box (W.alloc (.cells (Tab N (fun _ => (Value.int .i64 0))).toArray 3) = x) := ⟨_, ⟨rfl⟩⟩
  have HS2 : Box (RunM.PL w l 0 W2) := ⟨by
    rw [← HW2.out]
    refine ⟨hWb.alloc (by omega) _, hWn.alloc _, ?_⟩
    have := Blk.new W (Tab N (fun _ => (Value.int .i64 0))) 3
    rw [hWs] at this
    rw [HN.out]
    have e : RunM.half l 0 = fun _ => 0 := by funext j; simp [RunM.half]
    unfold ITab
    rw [e]; exact this⟩
  rw [HW2.out] at hmk
  obtain ⟨B, HB⟩ : ∃ B, Box (w.heap.size = B) := ⟨_, ⟨rfl⟩⟩
  clear hWs hWb hWn HW2 hi0 hz0 hz1 hz2
  go_wp2_with fail
  go_loopw [16] (fun t16 wr => ∃ k : Nat, k ≤ N ∧ t16 = .int .i64 (k : Int) ∧ Box (RunM.PL w l k wr)) (fun t16 _ => N - (RowKit.intOf t16).toNat)
  case atStart => exact ⟨0, Nat.zero_le _, rfl, HS2⟩
  case round =>
    obtain ⟨k, hk, rfl, HP⟩ := hrel
    by_cases hlt : k < N
    · have hkl : k < l.length := by rw [HN.out]; exact hlt
      obtain ⟨b, off, rfl, _, hrow⟩ := ((H.out.below HP.out.below (Nat.le_refl _)).resolve_left (by intro h; rw [h] at hkl; simp at hkl))
      obtain ⟨hc0, hc1, hc2⟩ := hrow k hkl
      obtain ⟨t, htt⟩ : ∃ t : Nat, l[k].tx = (t : Int) := ⟨l[k].tx.toNat, by have := (HT.out _ (List.getElem_mem hkl)).1; omega⟩
      have ht12 : t < 12 := by have := (HT.out _ (List.getElem_mem hkl)).2; omega
      have ht12i : (t : Int) < 12 := by omega
      have HNx := box (fun o u1 u2 h1 h2 => HP.out.next hkl htt o u1 u2 h1 h2)
      have n0 := HP.out.num.tabCell ht12
      have z0 := HP.out.num.frozen t
      have z1 := Blk.frozen HP.out.at_ k
      have a0 := HP.out.at_.cell hkl
      have hcl := RunM.cnt_le l k t
      rw [HN.out] at hcl
      have s0 := HP.out.num.lt
      have s1 := Blk.lt HP.out.at_
      rw [htt] at hc0
      generalize l[k].kind = y1 at *
      generalize l[k].item = y2 at *
      generalize RunM.half l k k = hh at *
      generalize RunM.cnt l k t = cc at *
      have hlt2 : (k : Int) < (N : Int) := by omega
      clear hrow htt
      go_wp2_with fail
      go_roundw
      case rel => exact ⟨k + 1, hlt, by go_num, ⟨HNx.out _ _ _ rfl rfl⟩⟩
      case measure => simp [RowKit.intOf]; omega
    · obtain rfl : k = N := by omega
      have HS3 : Box (RunM.PW w l (.slice none 0 0) (RunM.pairsTo l 0) wr) := ⟨by
        have := HP.out
        rw [← HN.out] at this
        exact this.all⟩
      clear HP HS2 hmk
      go_wp2_with fail
      go_loopw [7, 37] (fun t7 t37 wr => ∃ (i : Nat) (v7 : Value), i ≤ k ∧ v7 = t7 ∧ t37 = .int .i64 (i : Int) ∧ Box (RunM.PW w l v7 (RunM.pairsTo l i) wr)) (fun _ t37 _ => k - (RowKit.intOf t37).toNat)
      case atStart => exact ⟨0, _, Nat.zero_le _, rfl, rfl, HS3⟩
      case round =>
        obtain ⟨i, v7, hi, e7, rfl, HW⟩ := hrel
        subst e7
        by_cases hik : i < k
        · have hil : i < l.length := by rw [HN.out]; exact hik
          obtain ⟨b, off, rfl, hbs, hrow⟩ := ((H.out.below HW.out.below (Nat.le_refl _)).resolve_left (by intro h; rw [h] at hil; simp at hil))
          obtain ⟨hc0, hc1, hc2⟩ := hrow i hil
          have hLi : l[i]! = l[i] := getElem!_pos l i hil
          obtain ⟨x0, hx0⟩ : ∃ x, l[i].tx = x := ⟨_, rfl⟩
          obtain ⟨x1, hx1⟩ : ∃ x, l[i].kind = x := ⟨_, rfl⟩
          obtain ⟨x2, hx2⟩ : ∃ x, l[i].item = x := ⟨_, rfl⟩
          have HLi : Box (l[i]! = ⟨x0, x1, x2⟩) := ⟨by rw [hLi, ← hx0, ← hx1, ← hx2]⟩
          rw [hx0] at hc0; rw [hx1] at hc1; rw [hx2] at hc2
          have hik2 : (i : Int) < (k : Int) := by omega
          clear hrow hLi hx0 hx1 hx2 HS3
          go_upto_region 13 with (fail)
          refine name_world (fun W => RunM.PW w l v7 (RunM.pairsTo l i) W ∧ Blk W wr.heap.size 30 [.int .i64 x0, .int .i64 x1, .int .i64 x2]) ⟨HW.out.alloc _, Blk.new _ _ _⟩ ?_
          rintro W ⟨hw, hx⟩
          have HW1 := box hw; have HX1 := box hx
          clear hw hx hc0 hc1 hc2
          obtain ⟨X, HXe⟩ : ∃ X, Box (wr.heap.size = X) := ⟨_, ⟨rfl⟩⟩
          rw [HXe.out] at HX1 ⊢
          have HS4 : Box (RunM.PW w l v7 (RunM.pairsTo l i ++ RunM.pairsAt l i (i + 1)) W) := ⟨by rw [RunM.pairsAt_low l i (i + 1) (Nat.le_refl _), List.append_nil]; exact HW1.out⟩
          clear HW1 HW hbs HXe
          go_wp2_with fail
          go_loopw [7, 10] (fun t7 t10 wr => ∃ (j : Nat) (v8 : Value), i < j ∧ j ≤ k ∧ v8 = t7 ∧ t10 = .int .i64 (j : Int) ∧ Box (RunM.PW w l v8 (RunM.pairsTo l i ++ RunM.pairsAt l i j) wr ∧ Blk wr X 30 [.int .i64 x0, .int .i64 x1, .int .i64 x2])) (fun _ t10 _ => k - (RowKit.intOf t10).toNat)
          case atStart => exact ⟨i + 1, _, by omega, by omega, rfl, by go_num, ⟨HS4.out, HX1.out⟩⟩
          clear HS4 HX1
          case round =>
            obtain ⟨j, v8, hij, hjk, e8, rfl, HI⟩ := hrel
            subst e8
            by_cases hjk2 : j < k
            · have hjl : j < l.length := by rw [HN.out]; exact hjk2
              have hb2 := (H.out.below HI.out.1.below (Nat.le_refl _)).resolve_left (by intro h; rw [h] at hjl; simp at hjl)
              obtain ⟨b2, off2, he2, hbs, hrow⟩ := hb2
              injection he2 with he2
              injection he2 with e1 e2
              subst e1; subst e2
              obtain ⟨hd0, hd1, hd2⟩ := hrow j hjl
              have hLj : l[j]! = l[j] := getElem!_pos l j hjl
              obtain ⟨y0, hy0⟩ : ∃ x, l[j].tx = x := ⟨_, rfl⟩
              obtain ⟨y1, hy1⟩ : ∃ x, l[j].kind = x := ⟨_, rfl⟩
              obtain ⟨y2, hy2⟩ : ∃ x, l[j].item = x := ⟨_, rfl⟩
              have HLj : Box (l[j]! = ⟨y0, y1, y2⟩) := ⟨by rw [hLj, ← hy0, ← hy1, ← hy2]⟩
              rw [hy0] at hd0; rw [hy1] at hd1; rw [hy2] at hd2
              have c0 := HI.out.2.cell (i := 0) rfl
              have c1 := HI.out.2.cell (i := 1) rfl
              have c2 := HI.out.2.cell (i := 2) rfl
              have hXs := HI.out.2.lt
              have HSee : Box (∀ wx, Below wr.drew.heap.size wr.drew wx → wx.cell? ⟨X, 0, none⟩ = some (.int .i64 x0) ∧ wx.cell? ⟨X, 1, none⟩ = some (.int .i64 x1) ∧ wx.cell? ⟨X, 2, none⟩ = some (.int .i64 x2) ∧ wx.cell? ⟨b, off + j * 3, none⟩ = some (.int .i64 y0) ∧ wx.cell? ⟨b, off + j * 3 + 1, none⟩ = some (.int .i64 y1) ∧ wx.cell? ⟨b, off + j * 3 + 2, none⟩ = some (.int .i64 y2)) := ⟨fun wx hx => ⟨(hx.cell (p := ⟨X, 0, none⟩) hXs).trans c0, (hx.cell (p := ⟨X, 1, none⟩) hXs).trans c1, (hx.cell (p := ⟨X, 2, none⟩) hXs).trans c2, (hx.cell (p := ⟨b, off + j * 3, none⟩) hbs).trans hd0, (hx.cell (p := ⟨b, off + j * 3 + 1, none⟩) hbs).trans hd1, (hx.cell (p := ⟨b, off + j * 3 + 2, none⟩) hbs).trans hd2⟩⟩
              have HNx := box (RunM.pairsAt_succ l i j hij)
              have HCl := box (clash_any ⟨x0, x1, x2⟩ ⟨y0, y1, y2⟩ wr.drew)
              rw [HLi.out, HLj.out] at HNx
              generalize RunM.clash ⟨x0, x1, x2⟩ ⟨y0, y1, y2⟩ = cl at *
              have hjk3 : (j : Int) < (k : Int) := by omega
              clear hrow hLj hy0 hy1 hy2
              go_wp2_with fail
              go_region_held3 (fun w' => w'.cell? ⟨X, 0, none⟩ = some (.int .i64 x0) ∧ w'.cell? ⟨X, 1, none⟩ = some (.int .i64 x1) ∧ w'.cell? ⟨X, 2, none⟩ = some (.int .i64 x2) ∧ w'.cell? ⟨b, off + j * 3, none⟩ = some (.int .i64 y0) ∧ w'.cell? ⟨b, off + j * 3 + 1, none⟩ = some (.int .i64 y1) ∧ w'.cell? ⟨b, off + j * 3 + 2, none⟩ = some (.int .i64 y2)) (first | exact ⟨c0, c1, c2, hd0, hd1, hd2⟩ | assumption) (first | (go_at_call 52; refine HCl.out.mono ?_; rintro e w4 ⟨rfl, hb4⟩; have hs4 := HSee.out w4 hb4; have Hb4 := box hb4; have Hs4 := box hs4; clear hb4))
              have HW4 := box (HI.out.1.after (below_tr (Below.refl _ wr).drew Hb4.out))
              have HX4 := box (HI.out.2.below (below_tr (Below.refl _ wr).drew Hb4.out) hXs)
              obtain ⟨z0, z1, z2, d0, d1, d2⟩ := Hs4.out
              cases cl with
              | false =>
                rw [if_neg (by simp), List.append_nil] at HNx
                have HE : Box (RunM.PW w l v8 (RunM.pairsTo l i ++ RunM.pairsAt l i (j + 1)) w4 ∧ Blk w4 X 30 [.int .i64 x0, .int .i64 x1, .int .i64 x2]) := ⟨by rw [HNx.out]; exact HW4.out, HX4.out⟩
                go_wp2_with fail
                go_roundw
                case rel => exact ⟨j + 1, _, by omega, by omega, rfl, by go_num, HE⟩
                case measure => simp [RowKit.intOf]; omega
              | true =>
                rw [if_pos rfl] at HNx
                have hil2 : i < l.length := by rw [HN.out]; exact hik
                have ti := HW4.out.at_.cell hil2
                have tj := HW4.out.at_.cell hjl
                have HOut : Box (RunM.pairsTo l i ++ RunM.pairsAt l i (j + 1) = (RunM.pairsTo l i ++ RunM.pairsAt l i j) ++ [⟨x0, (RunM.ord l i : Int), y0, (RunM.ord l j : Int)⟩]) := ⟨by rw [HNx.out, ← List.append_assoc]⟩
                have hlen : (RunM.pairsTo l i ++ RunM.pairsAt l i j).length ≤ 80000 := by
                  have h1 := RunM.pairsTo_len l i
                  have h2 := RunM.pairsAt_len l i j
                  rw [HN.out] at h1
                  have h3 : i * k ≤ 200 * 200 := Nat.mul_le_mul (by omega) hl
                  rw [List.length_append]; omega
                generalize RunM.pairsTo l i ++ RunM.pairsAt l i j = out at *
                generalize (RunM.ord l i : Int) = oi at *
                generalize (RunM.ord l j : Int) = oj at *
                have HOwn := box HW4.out.own
                have hw4s := HW4.out.below.size
                have a1 : v8.ownBlock ≠ some X := HX4.out.ne_own HW4.out.own (by decide)
                have a2 : v8.ownBlock ≠ some (w.heap.size + 1) := Blk.ne_own HW4.out.at_ HW4.out.own (by decide)
                obtain ⟨i1, hi1, hy0, hy1, hy2⟩ := info_parts Tryz.infoPair
                clear HNx HCl HSee c0 c1 c2 hd0 hd1 hd2 HLi HLj
                have HFin : Box (∀ (gg gcap : Nat) (w2 : World), w2.ownsRow w.heap.size 81 4 (.slice (some ⟨gg, 0, none⟩) (out.length + 1) gcap) (out.length + 1) (prVals out ++ [.int .i64 x0, .int .i64 oi, .int .i64 y0, .int .i64 oj]) → (w4.alloc (.cells #[.int .i64 x0, .int .i64 oi, .int .i64 y0, .int .i64 oj] 81)).drew.grownBy w2 v8.ownBlock →
                    RunM.PW w l (.slice (some ⟨gg, 0, none⟩) (out.length + 1) gcap) (out ++ [⟨x0, oi, y0, oj⟩]) w2 ∧ Blk w2 X 30 [.int .i64 x0, .int .i64 x1, .int .i64 x2]) := ⟨fun gg gcap w2 ho hg =>
                  ⟨⟨(HW4.out.below.alloc hw4s _).drew.grown hg (by simp; omega) (fun b hb => (HOwn.out.lt b hb).1), (Blk.alloc HW4.out.at_ _).drew.grown hg a2, by rw [List.length_append, prVals_append]; exact ho⟩, (HX4.out.alloc _).drew.grown hg a1⟩⟩
                go_upto_region 17 with (fail)
                refine wp_meetG (fun g kk wx => RunM.PW w l (.slice (some ⟨g, 0, none⟩) (out.length + 1) kk) (out ++ [⟨x0, oi, y0, oj⟩]) wx ∧ Blk wx X 30 [.int .i64 x0, .int .i64 x1, .int .i64 x2]) ?_
                apply Exists.intro
                constructor
                · go_region_law ((refine step_append_lies _ (by rfl) _ _ _ (by rfl) w.heap.size 81 i1 _ 4 32 Tryz.underlying79 hi1 hy0 hy1 hy2 rfl (by omega) v8 _ _ (by rfl) ((HOwn.out.alloc _).drew) ⟨w4.heap.size, 0, none⟩ 1 1 [.int .i64 x0, .int .i64 oi, .int .i64 y0, .int .i64 oj] (by rfl) (by rfl) (World.news_of_block (cs := #[.int .i64 x0, .int .i64 oi, .int .i64 y0, .int .i64 oj]) (t := 81) (fr := (0, 0)) (heap_alloc_new w4 _)) (by simp [Value.oneCell']) (by omega) (by unfold maxLen; omega) (by omega) (by simp; omega) (w4.heap.size + 1) (by simp) ?_; intro gg gcap w2 hown2 hgrow hat hlt2))
                  all_goals exact ⟨gg, gcap, rfl, HFin.out gg gcap w2 hown2 hgrow⟩
                intro gg gcap wx hcut
                obtain ⟨hp', hx'⟩ := hcut
                have HE : Box (RunM.PW w l (.slice (some ⟨gg, 0, none⟩) (out.length + 1) gcap) (RunM.pairsTo l i ++ RunM.pairsAt l i (j + 1)) wx ∧ Blk wx X 30 [.int .i64 x0, .int .i64 x1, .int .i64 x2]) := ⟨by rw [HOut.out]; exact hp', hx'⟩
                clear hp' hx'
                go_wp2_with fail
                go_roundw
                case rel => exact ⟨j + 1, _, by omega, by omega, rfl, by go_num, HE⟩
                case measure => simp [RowKit.intOf]; omega
            · obtain rfl : j = k := by omega
              have HE : Box (RunM.PW w l v8 (RunM.pairsTo l (i + 1)) wr) := ⟨by rw [RunM.pairsTo_succ, HN.out]; exact HI.out.1⟩
              go_wp2_with fail
              go_roundw
              case rel => exact ⟨i + 1, _, by omega, rfl, by go_num, HE⟩
              case measure => simp [RowKit.intOf]; omega
        · obtain rfl : i = k := by omega
          have HE : Box (RunM.pairsTo l i = RunM.pairs l) := ⟨by rw [RunM.pairs, HN.out]⟩
          have hlen : (RunM.pairsTo l i).length ≤ 40000 := by
            have := RunM.pairsTo_len l i
            rw [HN.out] at this
            have h2 : i * i ≤ 200 * 200 := Nat.mul_le_mul hl hl
            omega
          rw [HE.out] at HW hlen
          clear HE HS3
          go_wp2_with fail
          refine (pairSort_any (RunM.pairs l) _ w.heap.size _ HW.out.own (by omega)).mono ?_
          rintro e w2 ⟨rfl, ho, _, hb2⟩
          have HO := box ho; have HB2 := box (HW.out.below.trans (hb2 HW.out.below.size))
          clear ho hb2
          go_wp2_with fail
          go_ret
          refine ⟨⟨_, rfl, ?_⟩, HB2.out⟩
          rw [(PairM.sorted_perm (RunM.pairs l)).length_eq]; exact HO.out
end Go.Proofs.YtnnkejolfhhmlaaGreat
