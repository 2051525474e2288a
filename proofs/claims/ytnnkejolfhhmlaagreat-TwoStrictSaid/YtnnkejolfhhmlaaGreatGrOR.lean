/- Numbers of nodes in memory. -/
import Derived.Test.YtnnkejolfhhmlaaGreatEgC
import Derived.Test.YtnnkejolfhhmlaaGreatIntSort
import Derived.Test.YtnnkejolfhhmlaaGreatMake
import Derived.Deep.AppendLies
import Derived.Deep.DeepMust
import Derived.Test.YtnnkejolfhhmlaaGreatIntIdx
import Derived.Deep.LoopGhost
namespace Go.Proofs.YtnnkejolfhhmlaaGreat
section
open Go.RowKit Go.Lib

/-- To whom the edges from a go, as they stand. -/
def GrM.tos (l : List EgM) (a : Nat) : List Int := (l.filter fun e => decide (e.frm = (a : Int))).map EgM.to_
theorem GrM.tos_snoc (l : List EgM) (x : EgM) (a : Nat) : GrM.tos (l ++ [x]) a = GrM.tos l a ++ if x.frm = (a : Int) then [x.to_] else [] := by
  unfold GrM.tos
  rw [List.filter_append, List.map_append]
  congr 1
  by_cases h : x.frm = (a : Int) <;> simp [h]
theorem GrM.tos_len (l : List EgM) (a : Nat) : (GrM.tos l a).length ≤ l.length := by
  unfold GrM.tos
  rw [List.length_map]
  exact List.length_filter_le _ _
theorem GrM.compact_next {n : Nat} {l : List EgM} (hf : ∀ e ∈ l, ∃ a b : Nat, e = ⟨a, b⟩ ∧ a < n ∧ b < n) (a : Nat) : Lib.compact ((GrM.tos l a).mergeSort fun x y => decide (x ≤ y)) = GrM.ints (GrM.next n l a) := by
  refine IntSort.same _ _ (IntSort.compact_rise _ (IntSort.sorted _)) ?_ (fun x => ?_)
  · unfold GrM.ints
    rw [List.pairwise_map]
    refine List.Pairwise.imp ?_ (GrM.next_sorted n l a)
    intro x y h; omega
  · rw [IntSort.compact_mem, List.mem_mergeSort]
    unfold GrM.tos GrM.ints
    rw [List.mem_map, List.mem_map]
    constructor
    · rintro ⟨e, he, rfl⟩
      rw [List.mem_filter] at he
      obtain ⟨u, v, rfl, hu, hv⟩ := hf e he.1
      have hua : u = a := by have := of_decide_eq_true he.2; simp only at this; omega
      subst hua
      exact ⟨v, GrM.mem_next.2 ⟨hv, GrM.E_iff.2 he.1⟩, rfl⟩
    · rintro ⟨b, hb, rfl⟩
      obtain ⟨h1, h2⟩ := GrM.mem_next.1 hb
      exact ⟨⟨a, b⟩, List.mem_filter.2 ⟨GrM.E_iff.1 h2, by simp⟩, rfl⟩

/-- Rows of ints, one a node, of the call's own. -/
structure GrM.Rows (w : World) (base O n : Nat) (v : Nat → Value) (xs : Nat → List Int) : Prop where
  blk : Blk w O 23 (Tab n v)
  fam : Fam w base n 3 1 v (fun i => (xs i).length) (fun i => intVals (xs i))
section
variable {w w' : World} {base O n : Nat} {v : Nat → Value} {xs : Nat → List Int}
theorem GrM.Rows.alloc (h : GrM.Rows w base O n v xs) (o : Obj) : GrM.Rows (w.alloc o) base O n v xs := ⟨h.blk.alloc o, h.fam.alloc o⟩
theorem GrM.Rows.drew (h : GrM.Rows w base O n v xs) : GrM.Rows w.drew base O n v xs := ⟨h.blk, h.fam.drew⟩
theorem GrM.Rows.after (h : GrM.Rows w base O n v xs) (hb : Below w.heap.size w w') : GrM.Rows w' base O n v xs := ⟨h.blk.after hb, h.fam.after hb⟩
/-- A row has been turned, and its slice laid into the table. -/
theorem GrM.Rows.put (h : GrM.Rows w base O n v xs) {k : Nat} (hk : k < n) {w1 : World} {u : Value} {ys : List Int} (ho : w1.ownsRow base 3 1 u ys.length (intVals ys)) (hg : w.grownBy w1 (v k).ownBlock)
    (hat : u.ownBlock = (v k).ownBlock ∨ u.ownBlock = some w.heap.size) : GrM.Rows (w1.setCell ⟨O, k, none⟩ u) base O n (upd v k u) (upd xs k ys) := by
  have hb1 := h.blk.grown hg (h.blk.ne_own (h.fam.own k hk) (by decide))
  refine ⟨hb1.tabSet k u, ?_⟩
  have h2 := (h.fam.append hk ho hg hat).setCell hb1 (by decide) k u
  have e1 : upd (fun i => (xs i).length) k ys.length = fun i => (upd xs k ys i).length := by
    funext i; unfold upd; split <;> rfl
  have e2 : upd (fun i => intVals (xs i)) k (intVals ys) = fun i => intVals (upd xs k ys i) := by
    funext i; unfold upd; split <;> rfl
  rw [e1, e2] at h2
  exact h2
theorem GrM.Rows.congr (h : GrM.Rows w base O n v xs) {ys : Nat → List Int} (e : ∀ i, i < n → ys i = xs i) : GrM.Rows w base O n v ys :=
  ⟨h.blk, fun i hi => (by rw [e i hi]; exact h.fam.own i hi), h.fam.apart⟩
theorem GrM.Rows.shape (h : GrM.Rows w base O n v xs) {k : Nat} (hk : k < n) : ∃ a c, v k = .slice a (xs k).length c ∧ (a = none → xs k = [] ∧ c = 0) ∧ ((v k).ownBlock = a.map Addr.block) ∧ (∀ g, a = some g → g.off = 0 ∧ g.spot = none) := by
  rcases (h.fam.own k hk).2 with ⟨h1, h2⟩ | ⟨g, cap, cur, h1, _⟩
  · have h3 : (xs k).length = 0 := h2
    exact ⟨none, 0, by rw [h1, h3], fun _ => ⟨List.eq_nil_of_length_eq_zero h3, rfl⟩, by rw [h1]; rfl, fun _ h => (by cases h)⟩
  · exact ⟨some ⟨g, 0, none⟩, cap, h1, fun h => (by cases h), by rw [h1]; rfl, fun a h => (by injection h with h; subst h; exact ⟨rfl, rfl⟩)⟩
end
theorem Tryz.infoRows : (Tryz.prog.info? 23).map (fun i => (i.zero, i.size, i.bytes)) = some (some (.slice none 0 0), 1, 24) := by kernel_rfl
theorem Tryz.infoIntG : (Tryz.prog.info? 3).map (fun i => (i.zero, i.size, i.bytes)) = some (some (.int .i64 0), 1, 8) := by kernel_rfl

theorem grown_trans {w w1 w2 : World} {r : Option Nat} (h : w.grownBy w1 r) (k : w1.grownBy w2 r) : w.grownBy w2 r :=
  ⟨k.os.trans h.os, k.tape.trans h.tape, k.output.trans h.output, Nat.le_trans h.size k.size, fun i hi hne => (k.block i (Nat.lt_of_lt_of_le hi h.size) hne).trans (h.block i hi hne)⟩
theorem grown_refl (w : World) (r : Option Nat) : w.grownBy w r := ⟨rfl, rfl, rfl, Nat.le_refl _, fun _ _ _ => rfl⟩
/-- The rows, the first k of them made whole. -/
def GrM.half (n : Nat) (l : List EgM) (k : Nat) : Nat → List Int := fun i => if i < k then GrM.ints (GrM.next n l i) else GrM.tos l i
theorem GrM.half_step (n : Nat) (l : List EgM) (k : Nat) : GrM.half n l (k + 1) = upd (GrM.half n l k) k (GrM.ints (GrM.next n l k)) := by
  funext i
  unfold GrM.half upd
  by_cases e : i = k
  · subst e; simp
  · rw [if_neg e]
    by_cases h : i < k
    · have h2 : i < k + 1 := by omega
      simp [h, h2]
    · have h2 : ¬ i < k + 1 := by omega
      simp [h, h2]
theorem GrM.half_at (n : Nat) (l : List EgM) (k : Nat) : GrM.half n l k k = GrM.tos l k := by unfold GrM.half; rw [if_neg (Nat.lt_irrefl k)]
/-- What next leaves. -/
def GrM.NextPost (n : Nat) (l : List EgM) (w : World) (e : Ending) (w' : World) : Prop :=
  Below w.heap.size w w' ∧ ∃ O v, e = .returned (.slice (some ⟨O, 0, none⟩) n n) ∧ w.heap.size ≤ O ∧ GrM.Rows w' w.heap.size O n v (fun i => GrM.ints (GrM.next n l i))

set_option maxRecDepth 20000 in
set_option maxHeartbeats 8000000 in
theorem graphNext_any (n : Nat) (l : List EgM) (ao : Option Addr) (cap : Nat) (w : World) (h : EgsAt w ao l) (hn : l.length ≤ 2000) (hn6 : n ≤ 60) (hf : ∀ e ∈ l, ∃ a b : Nat, e = ⟨a, b⟩ ∧ a < n ∧ b < n) :
    Calls Tryz.prog 134 #[.int .i64 (n : Int), .slice ao l.length cap] w (GrM.NextPost n l w) := by
  obtain ⟨i0, hi0, hz0, hz1, hz2⟩ := info_parts Tryz.infoIntG
  obtain ⟨j0, hj0, hy0, hy1, hy2⟩ := info_parts Tryz.infoRows
  have hmk := run_make_tab (P := Tryz.prog) w 49 23 j0 (.slice none 0 0) Tryz.underlying49 hj0 hy0 hy1 rfl n (by rw [hy2]; omega) (by omega)
  clear hj0 hy0 hy1 hy2
  have H := box h; have HF := box hf
  obtain ⟨N, HN⟩ : ∃ N, Box (l.length = N) := ⟨_, ⟨rfl⟩⟩
  rw [HN.out] at hn ⊢
  have hRs : GrM.Rows (w.alloc (.cells (Tab n (fun _ => .slice none 0 0)).toArray 23)) w.heap.size w.heap.size n (fun _ => .slice none 0 0) (fun i => GrM.tos (l.take 0) i) := ⟨Blk.new _ _ _, Fam.nil _ _ _ _ _⟩
  have HRs := box hRs
  have HB0 := box ((Below.refl w.heap.size w).alloc (Nat.le_refl _) (.cells (Tab n (fun _ => (Value.slice none 0 0))).toArray 23))
  have hcn := box (fun a => GrM.compact_next hf a)
  clear h hf hRs
  obtain ⟨W0, HW0⟩ : ∃ x, Box (w.alloc (.cells (Tab n (fun _ => (Value.slice none 0 0))).toArray 23) = x) := ⟨_, ⟨rfl⟩⟩
  rw [HW0.out] at hmk HRs HB0
  go_enter Tryz.func134, Tryz.ntmps134
  go_wp2_with fail
  go_loopw [13] (fun t13 wr => ∃ (k : Nat) (v : Nat → Value), k ≤ N ∧ t13 = .int .i64 (k : Int) ∧ Box (Below w.heap.size w wr ∧ GrM.Rows wr w.heap.size w.heap.size n v (fun i => GrM.tos (l.take k) i))) (fun t13 _ => N - (RowKit.intOf t13).toNat)
  case atStart => exact ⟨0, _, Nat.zero_le _, rfl, ⟨HB0.out, HRs.out⟩⟩
  case round =>
    obtain ⟨k, v, hk, rfl, HR⟩ := hrel
    by_cases hlt : k < N
    · have hkl : k < l.length := by rw [HN.out]; exact hlt
      obtain ⟨b, off, rfl, hb, hrow⟩ := (H.out.below HR.out.1 (Nat.le_refl _)).resolve_left (by intro h; have := HN.out; rw [h] at this; simp at this; omega)
      obtain ⟨c0, c1⟩ := hrow k hkl
      obtain ⟨x, y, he, hx, hy⟩ := HF.out l[k] (List.getElem_mem hkl)
      have HE := box he
      rw [he] at c0 c1
      dsimp only at c0 c1
      clear hrow he
      have HR1 := box (HR.out.2.alloc (.cells #[.int .i64 (x : Int), .int .i64 (y : Int)] 180))
      have HB1 : Box (Below w.heap.size w (wr.alloc (.cells #[.int .i64 (x : Int), .int .i64 (y : Int)] 180))) := ⟨HR.out.1.alloc HR.out.1.size _⟩
      have HX1 := box (Blk.new wr [.int .i64 (x : Int), .int .i64 (y : Int)] 180)
      have hws := HR.out.1.size
      go_upto_region 5 with (fail)
      obtain ⟨X, HXe⟩ : ∃ X, Box (wr.heap.size = X) := ⟨_, ⟨rfl⟩⟩
      obtain ⟨W, HWe⟩ : ∃ W, Box (wr.alloc (.cells #[.int .i64 (x : Int), .int .i64 (y : Int)] 180) = W) := ⟨_, ⟨rfl⟩⟩
      have HX2 : Box (Blk W X 180 [.int .i64 (x : Int), .int .i64 (y : Int)]) := ⟨by rw [← HXe.out, ← HWe.out]; exact HX1.out⟩
      rw [HWe.out] at HR1 HB1 ⊢
      rw [HXe.out]
      have hWs := HB1.out.size
      have x0 := HX2.out.cell (i := 0) rfl
      have x1 := HX2.out.cell (i := 1) rfl
      have r0 := HR1.out.blk.tabCell hx
      have hown := HR1.out.fam.own x hx
      obtain ⟨va, vc, hv, hvn, hvb, _⟩ := HR1.out.shape hx
      have HV := box hv
      have a2 : (v x).ownBlock ≠ some w.heap.size := HR1.out.blk.ne_own hown (by decide)
      rw [hv] at r0 hown a2
      have hxl : (GrM.tos (l.take k) x).length ≤ 2000 := by
        have := GrM.tos_len (l.take k) x
        rw [List.length_take] at this
        omega
      have hx6 : (x : Int) < (n : Int) := by omega
      have e4 : w.heap.size < W.heap.size := HR1.out.blk.lt
      have e5 : X < W.heap.size := HX2.out.lt
      have e6 : X < W.drew.heap.size := e5
      have e3 : w.heap.size < W.drew.heap.size := by have := HR1.out.blk.lt; simpa using this
      have hStep : Box (GrM.tos (l.take (k + 1)) = upd (GrM.tos (l.take k)) x (GrM.tos (l.take k) x ++ [(y : Int)])) := ⟨by
        funext a
        rw [List.take_succ_eq_append_getElem hkl, GrM.tos_snoc, HE.out]
        unfold upd
        by_cases e : a = x
        · subst e; simp
        · rw [if_neg e, if_neg (by simp only; omega), List.append_nil]⟩
      clear hv hvn hvb c0 c1 hb HX1
      have a1 : (Value.slice va (GrM.tos (l.take k) x).length vc).ownBlock ≠ some X := HX2.out.ne_own hown (by decide)
      have hown := box hown
      refine wp_meetF (fun wx => ∃ v', Below w.heap.size w wx ∧ GrM.Rows wx w.heap.size w.heap.size n v' (GrM.tos (l.take (k + 1)))) ?_
      apply Exists.intro
      constructor
      · go_region_law ((refine step_append_lies _ (by rfl) _ _ _ (by rfl) w.heap.size 3 i0 _ 1 8 Tryz.underlying23 hi0 hz0 hz1 hz2 rfl (by omega) (.slice va (GrM.tos (l.take k) x).length vc) _ _ (by rfl) ((hown.out.alloc _).drew) ⟨W.heap.size, 0, none⟩ 1 1 [.int .i64 (y : Int)] (by rfl) (by rfl) (World.news_of_block (cs := #[.int .i64 (y : Int)]) (t := 3) (fr := (0, 0)) (heap_alloc_new W _)) (by simp [Value.oneCell']) (by omega) (by unfold maxLen; omega) (by omega) (by simp; omega) (W.heap.size + 1) (by simp) ?_; intro gg gcap w2 hown2 hgrow hat hlt2; have g0 := ((HX2.out.alloc _).drew.grown hgrow a1).cell (i := 0) rfl; have g1' := ((HR1.out.blk.alloc _).drew.grown hgrow a2); have g1 := g1'.tabCell hx; have g2 := g1'.frozen x; rw [HV.out] at g1))
        all_goals
          have hrow := ((HR1.out.alloc (.cells #[.int .i64 (y : Int)] 3)).drew).put hx (ys := GrM.tos (l.take k) x ++ [(y : Int)]) (by rw [List.length_append, intVals_append]; exact hown2) (by rw [HV.out]; exact hgrow) (by rw [HV.out]; exact hat.imp (fun h => h.symm) (fun h => by rw [h]; simp [Value.ownBlock, World.size_alloc]))
          rw [show (upd (fun i => GrM.tos (l.take k) i) x (GrM.tos (l.take k) x ++ [(y : Int)])) = GrM.tos (l.take (k + 1)) from hStep.out.symm] at hrow
          exact ⟨gg, gcap, rfl, _, (((HB1.out.alloc hWs _).drew.grown hgrow (by simp; omega) (fun j hj => (hown.out.lt j hj).1)).setCell (Nat.le_refl _) _), hrow⟩
      intro gg gcap wx hcut
      obtain ⟨v', hb', hr'⟩ := hcut
      have HB' := box hb'; have HR' := box hr'
      clear hb' hr'
      go_wp2_with fail
      go_roundw
      case rel => exact ⟨k + 1, v', by omega, by go_num, ⟨HB'.out, HR'.out⟩⟩
      case measure => simp [RowKit.intOf]; omega
    · obtain rfl : k = N := by omega
      have HR0 : Box (GrM.Rows wr w.heap.size w.heap.size n v (GrM.half n l 0)) := ⟨by
        have h1 := HR.out.2
        have e : l.take k = l := List.take_of_length_le (by rw [HN.out]; exact Nat.le_refl _)
        rw [e] at h1
        exact h1.congr (fun i _ => by unfold GrM.half; rw [if_neg (Nat.not_lt_zero i)])⟩
      have HBa := box HR.out.1
      clear HR HRs HB0 hmk HW0
      go_wp2_with fail
      go_loopw [33] (fun t33 wr => ∃ (k : Nat) (v : Nat → Value), k ≤ n ∧ t33 = .int .i64 (k : Int) ∧ Box (Below w.heap.size w wr ∧ GrM.Rows wr w.heap.size w.heap.size n v (GrM.half n l k))) (fun t33 _ => n - (RowKit.intOf t33).toNat)
      case atStart => exact ⟨0, v, Nat.zero_le _, rfl, ⟨HBa.out, HR0.out⟩⟩
      case round =>
        obtain ⟨i, v, hi, rfl, HR⟩ := hrel
        by_cases hin : i < n
        case neg =>
          obtain rfl : i = n := by omega
          go_wp2_with fail
          go_ret
          exact ⟨HR.out.1, w.heap.size, v, rfl, Nat.le_refl _, HR.out.2.congr (fun j hj => by unfold GrM.half; rw [if_pos hj])⟩
        have hi6 : (i : Int) < (n : Int) := by omega
        have c0 := HR.out.2.blk.tabCell hin
        have hown := HR.out.2.fam.own i hin
        have hne := HR.out.2.blk.ne_own hown (by decide)
        have hwO := HR.out.2.blk.lt
        rw [GrM.half_at] at hown
        have hxl : (GrM.tos l i).length ≤ 2000 := by have := GrM.tos_len l i; have := HN.out; omega
        have HNx := box (hcn.out i)
        have HSt := box (GrM.half_step n l i)
        obtain ⟨vi, HVi⟩ : ∃ x, Box (v i = x) := ⟨_, ⟨rfl⟩⟩
        rw [HVi.out] at c0 hown hne
        rcases hown.2 with ⟨h1, h2⟩ | ⟨g, vc, cur, h1, h3, _⟩
        · have h0 : GrM.tos l i = [] := List.eq_nil_of_length_eq_zero h2
          have HNil : Box (GrM.ints (GrM.next n l i) = []) := ⟨by rw [← HNx.out, h0]; simp [Lib.compact, Lib.compactUpTo]⟩
          subst h1
          have f0 := HR.out.2.blk.frozen i
          have HPut : Box (GrM.Rows (wr.setCell ⟨w.heap.size, i, none⟩ (.slice none 0 0)) w.heap.size w.heap.size n (upd v i (.slice none 0 0)) (GrM.half n l (i + 1))) := ⟨by
            rw [HSt.out, HNil.out]
            exact HR.out.2.put hin (World.ownsRow_nil _ _ _ _) (grown_refl _ _) (by rw [HVi.out]; exact Or.inl rfl)⟩
          clear h0 h2 hown hne
          go_wp2_with fail
          refine (Tryz.slices_Sort_int_none none 0 wr).mono ?_
          rintro e w2 ⟨rfl, rfl⟩
          go_wp2_with fail
          refine (Tryz.slices_Compact_int_empty none 0 w2).mono ?_
          rintro e w3 ⟨rfl, rfl⟩
          go_wp2_with fail
          go_roundw
          case rel => exact ⟨i + 1, _, by omega, by go_num, ⟨HR.out.1.setCell (Nat.le_refl _) _, HPut.out⟩⟩
          case measure => simp [RowKit.intOf]; omega
        · subst h1
          have Hown := box hown
          have Hne := box hne
          clear hown hne h3
          go_wp2_with fail
          refine (sort_ints (GrM.tos l i) g vc w.heap.size 3 wr Hown.out (by omega)).mono ?_
          rintro e w2 ⟨rfl, ho2, hg2⟩
          have c2 := (HR.out.2.blk.grown hg2 Hne.out).tabCell hin
          rw [HVi.out] at c2
          have HO2 := box ho2; have HG2 := box hg2
          have hml : ((GrM.tos l i).mergeSort fun x y => decide (x ≤ y)).length = (GrM.tos l i).length := List.length_mergeSort _
          rw [← hml] at HO2
          have HCm := box (compact_ints ((GrM.tos l i).mergeSort fun x y => decide (x ≤ y)) g vc w.heap.size 3 w2 HO2.out (by rw [hml]; omega))
          rw [hml, HNx.out] at HCm
          clear hml ho2 hg2 c0
          go_wp2_with fail
          refine HCm.out.mono ?_
          rintro e w3 ⟨rfl, ho3, hg3⟩
          have hg23 := grown_trans HG2.out hg3
          have hb3 := HR.out.2.blk.grown hg23 Hne.out
          have f3 := hb3.frozen i
          have c3 := hb3.tabCell hin
          have HPut : Box (GrM.Rows (w3.setCell ⟨w.heap.size, i, none⟩ (.slice (some ⟨g, 0, none⟩) (GrM.ints (GrM.next n l i)).length vc)) w.heap.size w.heap.size n (upd v i (.slice (some ⟨g, 0, none⟩) (GrM.ints (GrM.next n l i)).length vc)) (GrM.half n l (i + 1))) := ⟨by
            rw [HSt.out]
            exact HR.out.2.put hin ho3 (by rw [HVi.out]; exact hg23) (by rw [HVi.out]; exact Or.inl rfl)⟩
          have HB3 : Box (Below w.heap.size w w3) := ⟨HR.out.1.grown hg23 (Nat.le_of_lt hwO) (fun j hj => by injection hj with hj; subst hj; exact (Hown.out.lt g rfl).1)⟩
          clear ho3 hg3 hg23 hb3 c2
          go_wp2_with fail
          go_roundw
          case rel => exact ⟨i + 1, _, by omega, by go_num, ⟨HB3.out.setCell (Nat.le_refl _) _, HPut.out⟩⟩
          case measure => simp [RowKit.intOf]; omega
end
section
namespace GrM
section
variable {n : Nat} {l : List EgM} {out : List Nat}
/-- How many of the first i come to x. -/
def deg (l : List EgM) (i x : Nat) : Nat := ((List.range i).filter fun a => E l a x).length
theorem deg_le (l : List EgM) (i x : Nat) : deg l i x ≤ i := by
  unfold deg
  exact Nat.le_trans (List.length_filter_le _ _) (by simp)
theorem deg_succ (l : List EgM) (i x : Nat) : deg l (i + 1) x = deg l i x + if E l i x = true then 1 else 0 := by
  unfold deg
  rw [List.range_succ, List.filter_append, List.length_append]
  congr 1
  by_cases h : E l i x = true <;> simp [h]
/-- .. and k of those that i comes to. -/
def degIn (n : Nat) (l : List EgM) (i k x : Nat) : Int := deg l i x + if x ∈ (next n l i).take k then 1 else 0
theorem degIn_zero (n : Nat) (l : List EgM) (i x : Nat) : degIn n l i 0 x = deg l i x := by unfold degIn; simp
theorem degIn_all {i x : Nat} (hx : x < n) : degIn n l i (next n l i).length x = deg l (i + 1) x := by
  unfold degIn
  rw [List.take_length, deg_succ]
  by_cases h : E l i x = true
  · rw [if_pos (mem_next.2 ⟨hx, h⟩), if_pos h]; simp
  · rw [if_neg (fun h2 => h (mem_next.1 h2).2), if_neg h]; simp
theorem take_step {r : List Nat} {k : Nat} (hk : k < r.length) (x : Nat) : x ∈ r.take (k + 1) ↔ x = r[k] ∨ x ∈ r.take k := by
  rw [List.take_succ_eq_append_getElem hk, List.mem_append, List.mem_singleton]
  exact Or.comm
theorem take_new {r : List Nat} (hnd : r.Nodup) {k : Nat} (hk : k < r.length) : r[k] ∉ r.take k := by
  intro hm
  obtain ⟨i, hi, he⟩ := List.mem_iff_getElem.1 hm
  rw [List.length_take] at hi
  rw [List.getElem_take] at he
  rw [List.nodup_iff_pairwise_ne, List.pairwise_iff_getElem] at hnd
  exact hnd i k (by omega) hk (by omega) he
theorem degIn_step {i k : Nat} (hk : k < (next n l i).length) : degIn n l i (k + 1) = Go.Proofs.YtnnkejolfhhmlaaGreat.upd (degIn n l i k) ((next n l i)[k]) (degIn n l i k ((next n l i)[k]) + 1) := by
  funext x
  have hnd := next_nodup n l i
  have h1 := take_new hnd hk
  unfold Go.Proofs.YtnnkejolfhhmlaaGreat.upd degIn
  by_cases e : x = (next n l i)[k]
  · rw [if_pos e, if_pos ((take_step hk x).2 (Or.inl e)), if_neg h1, e]; omega
  · rw [if_neg e]
    by_cases h : x ∈ (next n l i).take k
    · have h2 : x ∈ (next n l i).take (k + 1) := (take_step hk x).2 (Or.inr h)
      simp [h, h2]
    · have h2 : x ∉ (next n l i).take (k + 1) := fun h3 => ((take_step hk x).1 h3).elim e h
      simp [h, h2]
theorem tab_start (x : Nat) : tab n l [] x = (deg l n x : Int) := by
  unfold tab ahead deg
  simp
/-- The table while k is taken out: j of those that k comes to have been told. -/
def tabIn (n : Nat) (l : List EgM) (out : List Nat) (k j x : Nat) : Int := if x = k then -1 else tab n l out x - if x ∈ (next n l k).take j then 1 else 0
theorem tabIn_zero (n : Nat) (l : List EgM) (out : List Nat) (k : Nat) : tabIn n l out k 0 = Go.Proofs.YtnnkejolfhhmlaaGreat.upd (tab n l out) k (-1) := by
  funext x
  unfold tabIn Go.Proofs.YtnnkejolfhhmlaaGreat.upd
  simp
theorem tabIn_step {k j : Nat} (hk0 : tab n l out k = 0) (hkn : k < n) (hj : j < (next n l k).length) : tabIn n l out k (j + 1) = Go.Proofs.YtnnkejolfhhmlaaGreat.upd (tabIn n l out k j) ((next n l k)[j]) (tabIn n l out k j ((next n l k)[j]) - 1) := by
  funext x
  have hnd := next_nodup n l k
  have h1 := take_new hnd hj
  have hne : (next n l k)[j] ≠ k := by
    intro e
    have h2 := (mem_next.1 (List.getElem_mem hj)).2
    rw [e] at h2
    have hz := tab_zero.1 hk0
    rw [hz.2 k hkn hz.1] at h2; cases h2
  unfold Go.Proofs.YtnnkejolfhhmlaaGreat.upd tabIn
  by_cases e : x = (next n l k)[j]
  · rw [if_pos e, if_neg (by rw [e]; exact hne), if_pos ((take_step hj x).2 (Or.inl e)), if_neg hne, if_neg h1, e]; omega
  · rw [if_neg e]
    by_cases h : x ∈ (next n l k).take j
    · have h2 : x ∈ (next n l k).take (j + 1) := (take_step hj x).2 (Or.inr h)
      simp [h, h2]
    · have h2 : x ∉ (next n l k).take (j + 1) := fun h3 => ((take_step hj x).1 h3).elim e h
      simp [h, h2]
theorem tabIn_all {k : Nat} (ho : Out n l out) (hk0 : tab n l out k = 0) (hkn : k < n) {x : Nat} (hx : x < n) : tabIn n l out k (next n l k).length x = tab n l (out ++ [k]) x := by
  have hz := tab_zero.1 hk0
  unfold tabIn
  rw [List.take_length]
  by_cases e : x = k
  · subst e
    rw [if_pos rfl]
    unfold tab
    rw [if_pos (by simp)]
  · rw [if_neg e, tab_snoc hk0 hkn e]
    by_cases hxo : x ∈ out
    · have h1 : E l k x = false := ho.none_behind x hxo k hkn hz.1
      rw [if_neg (fun h => by have := (mem_next.1 h).2; rw [h1] at this; cases this), if_pos (by simpa using hxo)]
      unfold tab
      rw [if_pos (by simpa using hxo)]; omega
    · have hc : out.contains x = false := by simpa using hxo
      simp only [hc, Bool.false_eq_true, if_false]
      by_cases hE : E l k x = true
      · rw [if_pos (mem_next.2 ⟨hx, hE⟩), if_pos hE]
      · rw [if_neg (fun h => hE (mem_next.1 h).2), if_neg hE]; omega
theorem tab_bounds (n : Nat) (l : List EgM) (out : List Nat) (x : Nat) : -1 ≤ tab n l out x ∧ tab n l out x ≤ n := by
  unfold tab
  have : ahead n l out x ≤ n := by
    unfold ahead
    exact Nat.le_trans (List.length_filter_le _ _) (by simp)
  split <;> omega
theorem tabIn_bounds (n : Nat) (l : List EgM) (out : List Nat) (k j x : Nat) : -2 ≤ tabIn n l out k j x ∧ tabIn n l out k j x ≤ n := by
  have := tab_bounds n l out x
  unfold tabIn
  split
  · omega
  · split <;> omega
/-- The list of a table. -/
def tabL (n : Nat) (f : Nat → Int) : List Int := (List.range n).map f
theorem tabL_len (n : Nat) (f : Nat → Int) : (tabL n f).length = n := by simp [tabL]
theorem tabL_get (f : Nat → Int) {k : Nat} (h : k < n) : (tabL n f)[k]'(by rw [tabL_len]; exact h) = f k := by simp [tabL]
theorem idx_tab (f : Nat → Int) : IntsM.idx (tabL n f) 0 = if (List.range n).findIdx (fun x => decide (f x = 0)) < n then (((List.range n).findIdx (fun x => decide (f x = 0)) : Nat) : Int) else -1 := by
  unfold IntsM.idx IntsM.find
  have e : (tabL n f).findIdx (fun y => (0 : Int) == y) = (List.range n).findIdx (fun x => decide (f x = 0)) := by
    unfold tabL
    rw [List.findIdx_map]
    congr 1
    funext x
    simp only [Function.comp_apply]
    rw [Bool.eq_iff_iff]
    simp only [beq_iff_eq, decide_eq_true_eq]
    exact eq_comm
  rw [e, tabL_len]
theorem orderGo_step {f : Nat} (h : out.length < n) (hp : pick n l out < n) : orderGo n l (f + 1) out = orderGo n l f (out ++ [pick n l out]) := by
  conv => lhs; unfold orderGo
  rw [if_pos h, if_pos hp]
theorem orderGo_stuck {f : Nat} (h : out.length < n) (hp : ¬ pick n l out < n) : orderGo n l (f + 1) out = none := by
  conv => lhs; unfold orderGo
  rw [if_pos h, if_neg hp]
end
end GrM
/-- A table of ints in a block. -/
def ITab (w : World) (A n : Nat) (g : Nat → Int) : Prop := Blk w A 3 (Tab n (fun x => Value.int .i64 (g x)))
section
variable {w : World} {A n : Nat} {g : Nat → Int}
theorem ITab.cell (h : ITab w A n g) {i : Nat} (hi : i < n) : w.cell? ⟨A, i, none⟩ = some (.int .i64 (g i)) := Blk.tabCell h hi
theorem ITab.set (h : ITab w A n g) (i : Nat) (x : Int) : ITab (w.setCell ⟨A, i, none⟩ (.int .i64 x)) A n (upd g i x) := by
  have h1 := Blk.tabSet h i (.int .i64 x)
  have e : upd (fun x => Value.int .i64 (g x)) i (.int .i64 x) = fun k => Value.int .i64 (upd g i x k) := by
    funext k; unfold upd; split <;> rfl
  rw [e] at h1
  exact h1
theorem ITab.congr (h : ITab w A n g) {f : Nat → Int} (e : ∀ i, i < n → f i = g i) : ITab w A n f := by
  have h1 : Tab n (fun x => Value.int .i64 (f x)) = Tab n (fun x => Value.int .i64 (g x)) := Tab_congr (fun i hi => by rw [e i hi])
  unfold ITab
  rw [h1]; exact h
theorem ITab.ints (h : ITab w A n g) : IntsAt w (some ⟨A, 0, none⟩) (GrM.tabL n g) :=
  Or.inr ⟨A, 0, rfl, Blk.lt h, fun k hk => by rw [Nat.zero_add, GrM.tabL_get g (by rwa [GrM.tabL_len] at hk)]; exact h.cell (by rwa [GrM.tabL_len] at hk)⟩
end
end
section
open Go.RowKit Go.Lib

/-- What Order leaves. -/
def GrM.OrderPost (n : Int) (l : List EgM) (w : World) (e : Ending) (w' : World) : Prop :=
  Below w.heap.size w w' ∧ ((GrM.check n l ≠ 0 ∧ e = .returned (.tuple #[.slice none 0 0, .int .i64 (GrM.check n l)])) ∨
    (GrM.check n l = 0 ∧ GrM.order n.toNat l = none ∧ e = .returned (.tuple #[.slice none 0 0, .int .i64 11])) ∨
    (GrM.check n l = 0 ∧ ∃ r v, GrM.order n.toNat l = some r ∧ e = .returned (.tuple #[v, .int .i64 0]) ∧ w'.ownsRow w.heap.size 3 1 v r.length (intVals (GrM.ints r))))

/-- In the loops: what stood below the table stands. -/
structure GrM.OrdAt (W1 : World) (A n : Nat) (g : Nat → Int) (vo : Value) (out : List Nat) (wr : World) : Prop where
  below : Below A W1 wr
  tab : ITab wr A n g
  own : wr.ownsRow (A + 1) 3 1 vo out.length (intVals (GrM.ints out))
theorem GrM.ints_get {r : List Nat} {j : Nat} (h : j < r.length) : (intVals (GrM.ints r))[j]? = some (.int .i64 (r[j] : Int)) := by
  unfold intVals GrM.ints
  simp [h]
theorem GrM.ints_len (r : List Nat) : (GrM.ints r).length = r.length := by simp [GrM.ints]
section
variable {W1 wr w' : World} {A n : Nat} {g : Nat → Int} {vo : Value} {out : List Nat}
theorem GrM.OrdAt.set (h : GrM.OrdAt W1 A n g vo out wr) (i : Nat) (x : Int) : GrM.OrdAt W1 A n (upd g i x) vo out (wr.setCell ⟨A, i, none⟩ (.int .i64 x)) := by
  refine ⟨h.below.setCell (Nat.le_refl _) _, h.tab.set i x, ownsRow_setCell_other h.own (fun e => ?_) _⟩
  have := (h.own.lt A e).1
  omega
theorem GrM.OrdAt.congr (h : GrM.OrdAt W1 A n g vo out wr) {f : Nat → Int} (e : ∀ i, i < n → f i = g i) : GrM.OrdAt W1 A n f vo out wr := ⟨h.below, h.tab.congr e, h.own⟩
end
/-- What an own row of a graph's table reads like, in any later world. -/
theorem GrM.Rows.later {w w' : World} {base O n : Nat} {v : Nat → Value} {r : Nat → List Nat} (h : GrM.Rows w base O n v (fun i => GrM.ints (r i))) (hb : Below w.heap.size w w') {k : Nat} (hk : k < n) :
    w'.cell? ⟨O, k, none⟩ = some (v k) ∧ ∃ a c, v k = .slice a (r k).length c ∧ ∀ j (hj : j < (r k).length), ∃ g, a = some ⟨g, 0, none⟩ ∧ w'.cell? ⟨g, j, none⟩ = some (.int .i64 ((r k)[j] : Int)) := by
  have h' := h.after hb
  refine ⟨h'.blk.tabCell hk, ?_⟩
  rcases (h'.fam.own k hk).2 with ⟨h1, h2⟩ | ⟨g, cap, cur, h1, _⟩
  · have h3 : (r k).length = 0 := by rw [GrM.ints_len] at h2; exact h2
    exact ⟨none, 0, by rw [h1, h3], fun j hj => by omega⟩
  · refine ⟨some ⟨g, 0, none⟩, cap, by rw [h1, GrM.ints_len], fun j hj => ⟨g, rfl, ?_⟩⟩
    have := (h'.fam.own k hk).cells (g := g) (by rw [h1]; rfl) j _ (GrM.ints_get hj)
    rwa [Addr.add_lit, Nat.zero_add] at this
end
end Go.Proofs.YtnnkejolfhhmlaaGreat
