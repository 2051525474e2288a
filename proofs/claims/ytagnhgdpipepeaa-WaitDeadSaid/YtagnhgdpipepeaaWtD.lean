/- wait.Dead: what it answers. -/
import Derived.Test.YtagnhgdpipepeaaWtM
import Derived.Test.YtagnhgdpipepeaaEgDel
import Derived.Test.YtagnhgdpipepeaaEgClone
import Derived.Test.YtagnhgdpipepeaaGrOW
namespace Go.Proofs.Ytagnhgdpipepeaa
open Go.RowKit Go.Lib

/-- What Dead leaves. -/
def WaitM.DeadPost (n : Int) (l : List EgM) (w : World) (e : Ending) (w' : World) : Prop :=
  Below w.heap.size w w' ∧ ((GrM.check n l ≠ 0 ∧ e = .returned (.tuple #[.slice none 0 0, .int .i64 (GrM.check n l)])) ∨
    (GrM.check n l = 0 ∧ ∃ (m : Nat) (D : Nat → Bool) (v : Value), n = m ∧ (∀ k, k < m → (D k = true ↔ GrM.Path m l k k ∨ ∃ i, GrM.Path m l k i ∧ GrM.Path m l i i)) ∧ e = .returned (.tuple #[v, .int .i64 0]) ∧
      w'.ownsRow w.heap.size 3 1 v ((List.range m).filter D).length (intVals (GrM.ints ((List.range m).filter D)))))

/-- The table, and the variables that hold it and the node taken. -/
structure WaitM.St (W0 : World) (T Bv K m k : Nat) (f : Nat → Int) (W : World) : Prop where
  below : Below T W0 W
  tab : ITab W T m f
  var : Blk W Bv 23 [.slice (some ⟨T, 0, none⟩) m m]
  node : Blk W K 3 [.int .i64 (k : Int)]
section
variable {W0 W w' : World} {T Bv K m k : Nat} {f : Nat → Int}
theorem WaitM.St.alloc (h : WaitM.St W0 T Bv K m k f W) (hT : T ≤ W.heap.size) (o : Obj) : WaitM.St W0 T Bv K m k f (W.alloc o) := ⟨h.below.alloc hT o, Blk.alloc h.tab o, h.var.alloc o, h.node.alloc o⟩
theorem WaitM.St.other (h : WaitM.St W0 T Bv K m k f W) {b : Nat} (hT : T < b) (hB : b ≠ Bv) (hK : b ≠ K) (i : Nat) (u : Value) : WaitM.St W0 T Bv K m k f (W.setCell ⟨b, i, none⟩ u) :=
  ⟨h.below.setCell (Nat.le_of_lt hT) u, Blk.other h.tab (by show T ≠ b; omega) u, h.var.other (fun e => hB e.symm) u, h.node.other (fun e => hK e.symm) u⟩
theorem WaitM.St.set (h : WaitM.St W0 T Bv K m k f W) (hB : Bv ≠ T) (hK : K ≠ T) (i : Nat) (x : Int) : WaitM.St W0 T Bv K m k (upd f i x) (W.setCell ⟨T, i, none⟩ (.int .i64 x)) :=
  ⟨h.below.setCell (Nat.le_refl _) _, h.tab.set i x, h.var.other hB _, h.node.other hK _⟩
end
/-- The table behind one more edge. -/
def WaitM.fin (k x y : Nat) (f : Nat → Int) : Nat → Int := if y = k then upd f x (f x - 1) else f
set_option maxRecDepth 20000 in
set_option maxHeartbeats 2000000 in
/-- The function that Dead hands to DeleteFunc. -/
theorem dead_f (W0 W : World) (T Bv K m k x y : Nat) (f : Nat → Int) (h : WaitM.St W0 T Bv K m k f W) (hx : x < m) (hb : -100000 ≤ f x ∧ f x ≤ 100000) (hB : Bv ≠ T) (hK : K ≠ T) (hTs : T ≤ W.heap.size) :
    Calls Try.prog 35 #[.agg #[.int .i64 (x : Int), .int .i64 (y : Int)], .pointer (some ⟨K, 0, none⟩), .pointer (some ⟨Bv, 0, none⟩)] W fun e w' => e = .returned (.bool (decide (y = k))) ∧ WaitM.St W0 T Bv K m k (WaitM.fin k x y f) w' ∧ W.heap.size ≤ w'.heap.size ∧ ∀ b, b ≠ T → b < W.heap.size → w'.heap[b]? = W.heap[b]? := by
  have HA := box (h.alloc hTs (.cells #[.int .i64 (x : Int), .int .i64 (y : Int)] 28))
  have c0 := h.tab.cell hx
  have z0 := Blk.frozen h.tab x
  have v0 := h.var.cell (i := 0) rfl
  have k0 := h.node.cell (i := 0) rfl
  have s0 := Blk.lt h.tab
  have s1 := h.var.lt
  have s2 := h.node.lt
  have hx2 : (x : Int) < (m : Int) := by omega
  clear h
  obtain ⟨hb1, hb2⟩ := hb
  have HSet : Box (∀ u : Int, u = f x - 1 → WaitM.St W0 T Bv K m k (upd f x (f x - 1)) ((W.alloc (.cells #[.int .i64 (x : Int), .int .i64 (y : Int)] 28)).setCell ⟨T, x, none⟩ (.int .i64 u))) := ⟨fun u hu => by rw [hu]; exact HA.out.set hB hK x _⟩
  have HOt : Box (∀ u, ∀ b, b ≠ T → b < W.heap.size → ((W.alloc (.cells #[.int .i64 (x : Int), .int .i64 (y : Int)] 28)).setCell ⟨T, x, none⟩ u).heap[b]? = W.heap[b]?) := ⟨fun u b h1 h2 => (Below.heap_setCell _ _ _ _ h1).trans (Below.heap_alloc _ _ _ h2)⟩
  have HAl : Box (∀ b, b < W.heap.size → (W.alloc (.cells #[.int .i64 (x : Int), .int .i64 (y : Int)] 28)).heap[b]? = W.heap[b]?) := ⟨fun b h => Below.heap_alloc _ _ _ h⟩
  simp only [fun o i v => World.setCell_alloc_past (w := W) o T i v s0] at HSet HOt
  go_enter Try.func35, Try.ntmps35
  cases hyk : decide (y = k) with
  | true =>
    obtain rfl : y = k := of_decide_eq_true hyk
    have HFn := box (show WaitM.fin y x y f = upd f x (f x - 1) from if_pos rfl)
    obtain ⟨ff, Hff⟩ : ∃ ff, Box (WaitM.fin y x y f = ff) := ⟨_, ⟨rfl⟩⟩
    rw [Hff.out] at HFn ⊢
    generalize f x = fx at *
    have q0 : ((y : Int) == (y : Int)) = true := by simp
    go_wp2_with fail
    go_ret
    refine ⟨rfl, ?_, by simp, fun b h1 h2 => HOt.out _ b h1 h2⟩
    rw [HFn.out]; exact HSet.out _ rfl
  | false =>
    have hne : ¬ y = k := of_decide_eq_false hyk
    have q0 : ((y : Int) == (k : Int)) = false := by simp; omega
    have q1 : (y == k) = false := by simp; omega
    have HFn := box (show WaitM.fin k x y f = f from if_neg hne)
    obtain ⟨ff, Hff⟩ : ∃ ff, Box (WaitM.fin k x y f = ff) := ⟨_, ⟨rfl⟩⟩
    rw [Hff.out] at HFn ⊢
    clear hne
    go_wp2_with fail
    go_ret
    refine ⟨rfl, ?_, by simp, fun b h1 h2 => HAl.out b h2⟩
    rw [HFn.out]; exact HA.out
theorem WaitM.fin_wIn (l : List EgM) (out : List Nat) (k : Nat) (L : List EgM) (x y : Nat) : WaitM.fin k x y (GrM.wIn l out k L) = GrM.wIn l out k (L ++ [⟨x, y⟩]) := by
  funext z
  have hc : GrM.wIn l out k (L ++ [⟨x, y⟩]) z = GrM.wIn l out k L z - (if (y : Int) = (k : Int) ∧ (x : Int) = (z : Int) then 1 else 0) := by
    unfold GrM.wIn
    rw [GrM.cnt_snoc]
    exact (Int.sub_sub _ _ _).symm
  rw [hc]
  unfold WaitM.fin
  by_cases h : y = k
  · rw [if_pos h]
    by_cases e : z = x
    · subst e
      rw [upd_same, if_pos ⟨by omega, rfl⟩]
    · rw [upd_other _ _ e, if_neg (by rintro ⟨_, h2⟩; omega)]; omega
  · rw [if_neg h, if_neg (by rintro ⟨h2, _⟩; omega)]; omega
theorem GrM.idx_wait (m : Nat) (l : List EgM) (out : List Nat) : IntsM.idx (GrM.tabL m (GrM.waits l out)) 0 = if GrM.wpick m l out < m then ((GrM.wpick m l out : Nat) : Int) else -1 := GrM.idx_tab _

set_option maxRecDepth 20000 in
set_option maxHeartbeats 8000000 in
theorem waitDead_any (n : Int) (l : List EgM) (ao : Option Addr) (cap : Nat) (w : World) (h : EgsAt w ao l) (hnil : ao = none → cap = 0) (hn : l.length ≤ 9000000000000) :
    Calls Try.prog 16 #[.int .i64 n, .slice ao l.length cap] w (WaitM.DeadPost n l w) := by
  obtain ⟨i0, hi0, hz0, hz1, hz2⟩ := info_parts Try.infoIntG
  have H := box h
  have HNil := box hnil
  clear h hnil
  go_enter Try.func16, Try.ntmps16
  go_wp2_with fail
  refine (graphCheck_any n l ao cap w H.out hn).mono ?_
  rintro e w1 ⟨rfl, hb1⟩
  have HB1 := box hb1
  clear hb1
  obtain ⟨c, HC⟩ : ∃ c, Box (GrM.check n l = c) := ⟨_, ⟨rfl⟩⟩
  rw [HC.out]
  cases d0 : (c == 0) with
  | false =>
    have d1 : (c != 0) = true := by simpa using d0
    have HC0 : Box (c ≠ 0) := ⟨by simpa using d0⟩
    go_wp2_with fail
    go_ret2
    exact ⟨HB1.out, Or.inl ⟨by rw [HC.out]; exact HC0.out, by rw [HC.out]; rfl⟩⟩
  | true =>
  obtain rfl : c = 0 := by simpa using d0
  obtain ⟨m, rfl, hm6, hl2, hf⟩ := GrM.check_ok HC.out
  have HF := box hf
  clear hf
  have hmk := run_make_tab (P := Try.prog) w1 23 3 i0 (.int .i64 0) Try.underlying23 hi0 hz0 hz1 rfl m (by rw [hz2]; omega) (by omega)
  obtain ⟨T, HTe⟩ : ∃ T, Box (w1.heap.size = T) := ⟨_, ⟨rfl⟩⟩
  have hT0 : w.heap.size ≤ T := by have := HB1.out.size; have := HTe.out; omega
  have HS0 : Box (Below T w1 ((w1.alloc (.cells (Tab m (fun _ => (Value.int .i64 0))).toArray 3)).alloc (.cells #[.slice (some ⟨T, 0, none⟩) m m] 23)) ∧ ITab ((w1.alloc (.cells (Tab m (fun _ => (Value.int .i64 0))).toArray 3)).alloc (.cells #[.slice (some ⟨T, 0, none⟩) m m] 23)) T m (fun _ => 0) ∧ Blk ((w1.alloc (.cells (Tab m (fun _ => (Value.int .i64 0))).toArray 3)).alloc (.cells #[.slice (some ⟨T, 0, none⟩) m m] 23)) (T + 1) 23 [.slice (some ⟨T, 0, none⟩) m m]) := ⟨by
    refine ⟨?_, ?_, Blk.new' (by rw [World.size_alloc, HTe.out]) _ _⟩
    · rw [← HTe.out]
      exact ((Below.refl _ _).alloc (Nat.le_refl _) _).alloc (by simp) _
    · rw [← HTe.out]
      exact (Blk.new w1 (Tab m (fun _ => (Value.int .i64 0))) 3).alloc _⟩
  obtain ⟨N, HN⟩ : ∃ N, Box (l.length = N) := ⟨_, ⟨rfl⟩⟩
  rw [HN.out] at hl2 hn ⊢
  go_wp2_with fail
  rw [HTe.out]
  generalize (w1.alloc (.cells (Tab m (fun _ => (Value.int .i64 0))).toArray 3)).alloc (.cells #[.slice (some ⟨T, 0, none⟩) m m] 23) = W4 at *
  clear hmk
  go_loopw [25] (fun t25 wr => ∃ j : Nat, j ≤ N ∧ t25 = .int .i64 (j : Int) ∧ Box (Below T w1 wr ∧ ITab wr T m (GrM.waits (l.take j) []) ∧ Blk wr (T + 1) 23 [.slice (some ⟨T, 0, none⟩) m m])) (fun t25 _ => N - (RowKit.intOf t25).toNat)
  case atStart => exact ⟨0, Nat.zero_le _, rfl, ⟨HS0.out.1, HS0.out.2.1.congr (fun i _ => by simp [GrM.waits]), HS0.out.2.2⟩⟩
  case round =>
    obtain ⟨j, hj, rfl, HR⟩ := hrel
    by_cases hlt : j < N
    · have hjl : j < l.length := by rw [HN.out]; exact hlt
      have hbw : Below w.heap.size w wr := HB1.out.trans (HR.out.1.mono hT0)
      obtain ⟨b, off, rfl, hb, hrow⟩ := (H.out.below hbw (Nat.le_refl _)).resolve_left (by intro h; have := HN.out; rw [h, List.length_nil] at this; omega)
      obtain ⟨c0, c1⟩ := hrow j hjl
      obtain ⟨x, y, he, hx, hy⟩ := HF.out l[j] (List.getElem_mem hjl)
      have hst : GrM.waits (l.take (j + 1)) [] = upd (GrM.waits (l.take j) []) x (GrM.waits (l.take j) [] x + 1) := by
        funext z
        rw [List.take_succ_eq_append_getElem hjl, GrM.waits_snoc, he]
        unfold upd
        by_cases e : z = x
        · subst e; simp
        · rw [if_neg e, if_neg (by simp only; omega)]; omega
      have HSt := box hst
      rw [he] at c0 c1
      dsimp only at c0 c1
      have hx2 : (x : Int) < (m : Int) := by omega
      have t0 := HR.out.2.1.cell hx
      have z0 := Blk.frozen HR.out.2.1 x
      have v0 := HR.out.2.2.cell (i := 0) rfl
      have s0 := Blk.lt HR.out.2.1
      have s1 := HR.out.2.2.lt
      have hTw : T ≤ wr.heap.size := Nat.le_of_lt s0
      obtain ⟨hd0, hd1⟩ := GrM.waits_bounds (l.take j) [] x
      have hd2 : ((l.take j).length : Int) ≤ 2000 := by rw [List.length_take]; omega
      have HNx : Box (∀ u : Int, u = GrM.waits (l.take j) [] x + 1 → Below T w1 ((wr.setCell ⟨T, x, none⟩ (.int .i64 u)).alloc (.cells #[.int .i64 (x : Int), .int .i64 (y : Int)] 28)) ∧ ITab ((wr.setCell ⟨T, x, none⟩ (.int .i64 u)).alloc (.cells #[.int .i64 (x : Int), .int .i64 (y : Int)] 28)) T m (GrM.waits (l.take (j + 1)) []) ∧ Blk ((wr.setCell ⟨T, x, none⟩ (.int .i64 u)).alloc (.cells #[.int .i64 (x : Int), .int .i64 (y : Int)] 28)) (T + 1) 23 [.slice (some ⟨T, 0, none⟩) m m]) := ⟨fun u hu => by
        refine ⟨(HR.out.1.setCell (Nat.le_refl _) _).alloc (by simpa using hTw) _, ?_, (HR.out.2.2.other (by show T + 1 ≠ T; omega) _).alloc _⟩
        rw [HSt.out, ← hu]
        exact Blk.alloc (HR.out.2.1.set x u) _⟩
      generalize GrM.waits (l.take j) [] x = dd at *
      clear hrow he hst hbw
      go_wp2_with fail
      go_roundw
      case rel => exact ⟨j + 1, by omega, by go_num, ⟨HNx.out _ rfl⟩⟩
      case measure => simp [RowKit.intOf]; omega
    · obtain rfl : j = N := by omega
      have HR2 : Box (Below T w1 wr ∧ ITab wr T m (GrM.waits l []) ∧ Blk wr (T + 1) 23 [.slice (some ⟨T, 0, none⟩) m m]) := ⟨by
        have h1 := HR.out
        rw [List.take_of_length_le (by rw [HN.out]; exact Nat.le_refl _)] at h1
        exact h1⟩
      have hbw := box (HB1.out.trans (HR2.out.1.mono hT0))
      have HCl := box (clone_egs l ao cap wr (H.out.below hbw.out (Nat.le_refl _)) HNil.out (by rw [HN.out]; omega))
      rw [HN.out] at HCl
      have hTB : T + 1 < wr.heap.size := HR2.out.2.2.lt
      clear HR HS0
      go_wp2_with fail
      refine HCl.out.mono ?_
      rintro e W5 ⟨⟨vl, rfl, hown⟩, hb5⟩
      obtain ⟨B5, HB5⟩ : ∃ B5, Box (wr.heap.size = B5) := ⟨_, ⟨rfl⟩⟩
      rw [HB5.out] at hown hb5 hTB
      have HW5 : Box (Below T w1 W5 ∧ ITab W5 T m (GrM.waits l []) ∧ Blk W5 (T + 1) 23 [.slice (some ⟨T, 0, none⟩) m m]) := ⟨⟨HR2.out.1.trans (hb5.mono (by omega)), Blk.below HR2.out.2.1 hb5 (by omega), HR2.out.2.2.below hb5 (by omega)⟩⟩
      have HO5 : Box (W5.ownsRow B5 28 2 vl (GrM.leftOf l []).length (egVals (GrM.leftOf l []))) := ⟨by rw [GrM.leftOf_nil, HN.out]; exact hown⟩
      have hB5s : B5 ≤ W5.heap.size := by have := hb5.size; have := HB5.out; omega
      clear hown hb5 HR2 HCl hbw HB5
      go_wp2_with fail
      go_loopg [10, 11] m (fun f t10 _ wr => ∃ (out : List Nat), f + out.length = m ∧ Box (GrM.Out m (GrM.rev l) out ∧ Below T w1 wr ∧ ITab wr T m (GrM.waits l out) ∧ Blk wr (T + 1) 23 [.slice (some ⟨T, 0, none⟩) m m] ∧ wr.ownsRow B5 28 2 t10 (GrM.leftOf l out).length (egVals (GrM.leftOf l out)) ∧ B5 ≤ wr.heap.size))
      case atStart => exact ⟨[], by simp, ⟨.nil, HW5.out.1, HW5.out.2.1, HW5.out.2.2, HO5.out, hB5s⟩⟩
      case round =>
        obtain ⟨out, hfo, HQ⟩ := hrel
        have v0 := HQ.out.2.2.2.1.cell (i := 0) rfl
        have s0 := Blk.lt HQ.out.2.2.1
        have s1 := HQ.out.2.2.2.1.lt
        have HIx := box (index_ints (GrM.tabL m (GrM.waits l out)) 0 (some ⟨T, 0, none⟩) m wr HQ.out.2.2.1.ints (by rw [GrM.tabL_len]; omega))
        rw [GrM.tabL_len, GrM.idx_wait] at HIx
        by_cases hp : GrM.wpick m l out < m
        case neg =>
          rw [if_neg hp] at HIx
          have HPs : Box (∀ x, x < m → (decide (0 < GrM.waits l out x) = true ↔ x ∉ out)) := ⟨fun x hx => GrM.waits_pos hp hx⟩
          have HNz : Box (∀ x, x < m → GrM.tab m (GrM.rev l) out x ≠ 0) := ⟨fun x hx h => GrM.wpick_none hp hx ((GrM.waits_zero HF.out).2 h)⟩
          clear hp
          go_wp2_with fail
          refine HIx.out.mono ?_
          rintro e w5 ⟨rfl, rfl⟩
          have HT6 : Box (ITab (wr.alloc (.cells #[.int .i64 (-1)] 3)) T m (GrM.waits l out)) := ⟨Blk.alloc HQ.out.2.2.1 _⟩
          have HV6 := box (HQ.out.2.2.2.1.alloc (.cells #[.int .i64 (-1)] 3))
          have HB6 : Box (Below w.heap.size w (wr.alloc (.cells #[.int .i64 (-1)] 3))) := ⟨(HB1.out.trans (HQ.out.2.1.mono hT0)).alloc (by omega) _⟩
          go_wp2_with fail
          generalize wr.alloc (.cells #[.int .i64 (-1)] 3) = W6 at *
          obtain ⟨B6, HB6e⟩ : ∃ B6, Box (W6.heap.size = B6) := ⟨_, ⟨rfl⟩⟩
          obtain ⟨D, HD⟩ : ∃ D : Nat → Bool, Box (D = fun k => decide (0 < GrM.waits l out k)) := ⟨_, ⟨rfl⟩⟩
          have hw6 : w.heap.size ≤ B6 := by have := HB6.out.size; have := HB6e.out; omega
          have HD1 : Box (∀ k, k < m → (D k = true ↔ GrM.Path m l k k ∨ ∃ i, GrM.Path m l k i ∧ GrM.Path m l i i)) := ⟨fun k hk => by
            rw [HD.out]
            exact (HPs.out k hk).trans (GrM.dead_iff HQ.out.1 HNz.out hk)⟩
          have HD2 : Box (∀ k, k < m → (D k = true → 0 < GrM.waits l out k) ∧ (D k = false → ¬ 0 < GrM.waits l out k)) := ⟨fun k hk => by
            rw [HD.out]
            exact ⟨fun h => of_decide_eq_true h, fun h => of_decide_eq_false h⟩⟩
          go_loopw [12, 51] (fun t12 t51 wx => ∃ (k : Nat) (a : Option Addr) (c : Nat), k ≤ m ∧ t51 = .int .i64 (k : Int) ∧ t12 = .slice a ((List.range k).filter D).length c ∧ Box (Below B6 W6 wx ∧ wx.ownsRow B6 3 1 (.slice a ((List.range k).filter D).length c) ((List.range k).filter D).length (intVals (GrM.ints ((List.range k).filter D))))) (fun _ t51 _ => m - (RowKit.intOf t51).toNat)
          case atStart => exact ⟨0, none, 0, Nat.zero_le _, rfl, rfl, ⟨Below.refl _ _, World.ownsRow_nil _ _ _ _⟩⟩
          case round =>
            obtain ⟨k, oa, oc, hk, rfl, rfl, HO⟩ := hrel
            have hRl : ((List.range k).filter D).length ≤ 60 := Nat.le_trans (List.length_filter_le _ _) (by simp; omega)
            by_cases hkm : k < m
            case neg =>
              obtain rfl : k = m := by omega
              obtain ⟨R, HRs⟩ : ∃ R, Box ((List.range k).filter D = R) := ⟨_, ⟨rfl⟩⟩
              rw [HRs.out] at HO ⊢
              go_wp2_with fail
              go_ret2
              refine ⟨HB6.out.trans (HO.out.1.mono hw6), Or.inr ⟨HC.out, k, D, .slice oa R.length oc, rfl, HD1.out, rfl, ?_⟩⟩
              rw [HRs.out]
              exact ownsRow_mono HO.out.2 hw6
            have hkm2 : (k : Int) < (m : Int) := by omega
            have t0 : wr.cell? ⟨T, k, none⟩ = some (.int .i64 (GrM.waits l out k)) := (HO.out.1.cell (p := ⟨T, k, none⟩) (by have := Blk.lt HT6.out; have := HB6e.out; show T < B6; omega)).trans (HT6.out.cell hkm)
            have HSt : Box ((List.range (k + 1)).filter D = (List.range k).filter D ++ if D k = true then [k] else []) := ⟨by
              rw [List.range_succ, List.filter_append]
              congr 1
              by_cases h : D k = true <;> simp [h]⟩
            have hd2 := HD2.out k hkm
            generalize GrM.waits l out k = wk at *
            cases hDk : D k with
            | false =>
              have HEq : Box ((List.range (k + 1)).filter D = (List.range k).filter D) := ⟨by rw [HSt.out, hDk]; simp⟩
              have hwk : decide (0 < wk) = false := decide_eq_false (hd2.2 hDk)
              obtain ⟨R, HRs⟩ : ∃ R, Box ((List.range k).filter D = R) := ⟨_, ⟨rfl⟩⟩
              rw [HRs.out] at HO HEq hRl ⊢
              clear hd2
              go_wp2_with fail
              go_roundw
              case rel => exact ⟨k + 1, oa, oc, by omega, by go_num, by rw [HEq.out], by rw [HEq.out]; exact HO⟩
              case measure => simp [RowKit.intOf]; omega
            | true =>
              have HEq : Box ((List.range (k + 1)).filter D = (List.range k).filter D ++ [k]) := ⟨by rw [HSt.out, hDk]; simp⟩
              have hwk : decide (0 < wk) = true := decide_eq_true (hd2.1 hDk)
              obtain ⟨R, HRs⟩ : ∃ R, Box ((List.range k).filter D = R) := ⟨_, ⟨rfl⟩⟩
              rw [HRs.out] at HO HEq hRl ⊢
              have hown := (HO.out.2.alloc (.cells #[.int .i64 (k : Int)] 3))
              have hAs := HO.out.1.size
              have hB6 := HB6e.out
              clear hd2
              go_wp2_with (at_builtin; go_must (refine wpList_append_lies _ rfl _ _ 23 rfl B6 3 i0 _ 1 8 Try.underlying23 hi0 hz0 hz1 hz2 rfl (by decide) _ _ _ rfl hown ⟨wr.heap.size, 0, none⟩ 1 1 [.int .i64 (k : Int)] rfl rfl (cells_new wr [.int .i64 (k : Int)] 3) (by simp [Value.oneCell']) (by decide) (by unfold maxLen; omega) (by omega) (by simp; omega) (wr.heap.size + 1) (by simp) ?_))
              intro gg gcap w7 hown7 hgrow7 hat7 hlt7
              have hOL1 : (R ++ [k]).length = R.length + 1 := by simp
              have HNx : Box (Below B6 W6 w7 ∧ w7.ownsRow B6 3 1 (.slice (some ⟨gg, 0, none⟩) (R.length + 1) gcap) (R.length + 1) (intVals (GrM.ints (R ++ [k])))) := ⟨by
                refine ⟨(HO.out.1.alloc (by omega) _).grown hgrow7 (by simp; omega) (fun b hb => (HO.out.2.lt b hb).1), ?_⟩
                have e1 : intVals (GrM.ints (R ++ [k])) = intVals (GrM.ints R) ++ [.int .i64 (k : Int)] := by unfold GrM.ints intVals; simp
                rw [e1]
                exact hown7⟩
              clear hown7 hgrow7 hat7 hlt7 hown hB6
              go_wp2_with fail
              go_roundw
              case rel => exact ⟨k + 1, some ⟨gg, 0, none⟩, gcap, by omega, by go_num, by rw [HEq.out, hOL1], by rw [HEq.out, hOL1]; exact HNx⟩
              case measure => simp [RowKit.intOf]; omega
        rw [if_pos hp] at HIx
        have hk0 := GrM.wpick_spec hp
        obtain ⟨k, HK⟩ : ∃ k, Box (GrM.wpick m l out = k) := ⟨_, ⟨rfl⟩⟩
        rw [HK.out] at HIx hk0 hp
        have HK0 := box hk0
        have hki : (k : Int) < (m : Int) := by omega
        have q0 : decide ((k : Int) < 0) = false := by simp
        have t0 := HQ.out.2.2.1.cell hp
        have z0 := Blk.frozen HQ.out.2.2.1 k
        obtain ⟨la, lc, hl10, hz1, hz2, hz3, hz4⟩ := EgsAt.own HQ.out.2.2.2.2.1
        subst hl10
        clear hz1 hz2 hz3 hz4
        obtain ⟨LL, HLL⟩ : ∃ LL, Box ((GrM.leftOf l out).length = LL) := ⟨_, ⟨rfl⟩⟩
        have hLL : LL ≤ 2000 := by have := GrM.leftOf_len l out; have := HLL.out; have := HN.out; omega
        -- the state behind the two stores
        have HSt0 : Box (WaitM.St w1 T (T + 1) wr.heap.size m k (GrM.wIn l out k []) ((wr.alloc (.cells #[.int .i64 (k : Int)] 3)).setCell ⟨T, k, none⟩ (.int .i64 (-1)))) := ⟨by
          have h1 : WaitM.St w1 T (T + 1) wr.heap.size m k (GrM.waits l out) (wr.alloc (.cells #[.int .i64 (k : Int)] 3)) :=
            ⟨HQ.out.2.1.alloc (Nat.le_of_lt s0) _, Blk.alloc HQ.out.2.2.1 _, HQ.out.2.2.2.1.alloc _, Blk.new _ _ _⟩
          have h2 := h1.set (by omega) (by omega) k (-1)
          have e1 : GrM.wIn l out k [] = upd (GrM.waits l out) k (-1) := by
            funext z
            unfold GrM.wIn GrM.cnt
            simp
          rw [e1]; exact h2⟩
        have HOw0 : Box (((wr.alloc (.cells #[.int .i64 (k : Int)] 3)).setCell ⟨T, k, none⟩ (.int .i64 (-1))).ownsRow B5 28 2 (.slice la LL lc) LL (egVals (GrM.leftOf l out))) := ⟨by
          rw [← HLL.out]
          exact ownsRow_setCell_other (HQ.out.2.2.2.2.1.alloc _) (fun e => by have := (HQ.out.2.2.2.2.1.lt T e).1; omega) _⟩
        have HKne : Box (∀ b, (Value.slice la LL lc).ownBlock = some b → B5 ≤ b ∧ b ≠ wr.heap.size) := ⟨fun b hb => by
          rw [← HLL.out] at hb
          have h1 := HQ.out.2.2.2.2.1.lt b hb
          exact ⟨h1.1, by omega⟩⟩
        have hB5w := HQ.out.2.2.2.2.2
        rw [World.setCell_alloc_past _ _ _ _ s0] at HSt0 HOw0
        obtain ⟨K, HKe⟩ : ∃ K, Box (wr.heap.size = K) := ⟨_, ⟨rfl⟩⟩
        have HTurn : Box (EgTurns B5 35 #[.pointer (some ⟨K, 0, none⟩), .pointer (some ⟨T + 1, 0, none⟩)] (fun e => decide (e.to_ = (k : Int))) (GrM.leftOf l out) (.slice la LL lc) (fun j W => WaitM.St w1 T (T + 1) K m k (GrM.wIn l out k ((GrM.leftOf l out).take j)) W ∧ T ≤ W.heap.size)) := ⟨by
          refine ⟨fun j hj W hI _ => ?_, fun j W o hI => ⟨hI.1.alloc hI.2 o, by rw [World.size_alloc]; omega⟩, fun j W b i u hI hb => ?_⟩
          · have hmem : (GrM.leftOf l out)[j] ∈ l := (List.mem_filter.1 (List.getElem_mem hj)).1
            obtain ⟨x, y, he, hx, hy⟩ := HF.out _ hmem
            obtain ⟨hb1, hb2⟩ := GrM.wIn_bounds l out k ((GrM.leftOf l out).take j) x
            have hl1 : (((GrM.leftOf l out).take j).length : Int) ≤ 2000 := by rw [List.length_take]; have := HLL.out; omega
            have hl2 : (l.length : Int) ≤ 2000 := by have := HN.out; omega
            have h1 := dead_f w1 W T (T + 1) K m k x y _ hI.1 hx (by omega) (by omega) (by have := HKe.out; omega) hI.2
            rw [he]
            refine h1.mono ?_
            rintro e w' ⟨rfl, h2, h3, h4⟩
            refine ⟨?_, ⟨?_, by omega⟩, h3, fun b h5 h6 => h4 b (by omega) h6⟩
            · congr 2
              simp only
              rw [decide_eq_decide]
              omega
            · rw [WaitM.fin_wIn] at h2
              rw [List.take_succ_eq_append_getElem hj, he]
              exact h2
          · obtain ⟨h1, h2⟩ := HKne.out b hb
            exact ⟨hI.1.other (by omega) (by omega) (by rw [← HKe.out]; exact h2) i u, by simpa using hI.2⟩⟩
        have HOut : Box (GrM.Out m (GrM.rev l) (out ++ [k])) := ⟨.snoc HQ.out.1 hp ((GrM.waits_zero HF.out).1 HK0.out)⟩
        rw [HKe.out] at HSt0
        have hKs : wr.heap.size < (wr.setCell ⟨T, k, none⟩ (.int .i64 (-1))).heap.size + 1 := by simp
        have k1 : ((wr.setCell ⟨T, k, none⟩ (.int .i64 (-1))).alloc (.cells #[.int .i64 (k : Int)] 3)).heap.size = K + 1 := by rw [World.size_alloc]; simp; exact HKe.out
        have HK1 := box k1
        clear k1 hKs hk0
        generalize GrM.waits l out k = wk at t0
        go_wp2_with fail
        refine HIx.out.mono ?_
        rintro e w5 ⟨rfl, rfl⟩
        go_wp2_with fail
        rw [HKe.out, HLL.out]
        generalize (wr.setCell ⟨T, k, none⟩ (.int .i64 (-1))).alloc (.cells #[.int .i64 (k : Int)] 3) = W6 at *
        refine (deleteFunc_egsT (GrM.leftOf l out) (.slice la LL lc) B5 35 #[.pointer (some ⟨K, 0, none⟩), .pointer (some ⟨T + 1, 0, none⟩)] (fun e => decide (e.to_ = (k : Int))) _ W6 (by rw [HLL.out]; exact HOw0.out) (by rw [HLL.out]; omega) ⟨HSt0.out, by have := HK1.out; have := HKe.out; omega⟩ HTurn.out (enters_fn Try.func35 (by kernel_rfl) rfl)).mono ?_
        rintro e w7 ⟨v', rfl, _, hown, ⟨hst, _⟩, hsz⟩
        have HNx : Box (GrM.Out m (GrM.rev l) (out ++ [k]) ∧ Below T w1 w7 ∧ ITab w7 T m (GrM.waits l (out ++ [k])) ∧ Blk w7 (T + 1) 23 [.slice (some ⟨T, 0, none⟩) m m] ∧ w7.ownsRow B5 28 2 v' (GrM.leftOf l (out ++ [k])).length (egVals (GrM.leftOf l (out ++ [k]))) ∧ B5 ≤ w7.heap.size) := ⟨by
          rw [List.take_of_length_le (Nat.le_refl _)] at hst
          refine ⟨HOut.out, hst.below, hst.tab.congr (fun x _ => (GrM.wIn_all HF.out HQ.out.1 HK0.out hp x).symm), hst.var, ?_, by have := HK1.out; have := HKe.out; omega⟩
          rw [GrM.leftOf_snoc]
          exact hown⟩
        clear hown hst hsz
        go_wp2_with fail
        go_roundg (gk - 1)
        case measure =>
          have := HNx.out.1.len
          rw [List.length_append, List.length_singleton] at this
          omega
        case rel =>
          refine ⟨out ++ [k], ?_, HNx⟩
          have := HNx.out.1.len
          rw [List.length_append, List.length_singleton] at this ⊢
          omega
end Go.Proofs.Ytagnhgdpipepeaa
