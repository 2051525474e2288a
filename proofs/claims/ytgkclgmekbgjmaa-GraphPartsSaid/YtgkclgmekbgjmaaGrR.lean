/- graph.Reach: what it answers. -/
import Derived.Test.YtgkclgmekbgjmaaGrOW
import Derived.Test.YtgkclgmekbgjmaaOffRow
import Derived.Test.YtgkclgmekbgjmaaIntClone
namespace Go.Proofs.Ytgkclgmekbgjmaa
open Go.RowKit Go.Lib

/-- What Reach leaves. -/
def GrM.ReachPost (n : Int) (l : List EgM) (a : Int) (w : World) (e : Ending) (w' : World) : Prop :=
  Below w.heap.size w w' ∧ ((GrM.check n l ≠ 0 ∧ e = .returned (.tuple #[.slice none 0 0, .int .i64 (GrM.check n l)])) ∨
    (GrM.check n l = 0 ∧ (a < 0 ∨ n ≤ a) ∧ e = .returned (.tuple #[.slice none 0 0, .int .i64 1])) ∨
    (GrM.check n l = 0 ∧ ∃ (m x : Nat) (S : Nat → Bool) (v : Value), n = m ∧ a = x ∧ x < m ∧ (∀ b, S b = true ↔ GrM.Path m l x b) ∧ e = .returned (.tuple #[v, .int .i64 0]) ∧
      w'.ownsRow w.heap.size 3 1 v ((List.range m).filter S).length (intVals (GrM.ints ((List.range m).filter S)))))

def GrM.bit (S : Nat → Bool) (x : Nat) : Int := if S x = true then 1 else 0
def GrM.unseen (m : Nat) (S : Nat → Bool) : Nat := ((List.range m).filter fun x => !S x).length
theorem GrM.unseen_visit {m k : Nat} {S : Nat → Bool} (hk : k < m) (hS : S k = false) : GrM.unseen m S = GrM.unseen m (upd S k true) + 1 := by
  unfold GrM.unseen
  have key : ∀ r : List Nat, r.Nodup → (r.filter fun x => !S x).length = (r.filter fun x => !(upd S k true) x).length + if k ∈ r then 1 else 0 := by
    intro r
    induction r with
    | nil => intro _; simp
    | cons a r ih =>
      intro hnd
      obtain ⟨h1, h2⟩ := List.nodup_cons.1 hnd
      have ih := ih h2
      by_cases e : a = k
      · subst e
        rw [List.filter_cons, List.filter_cons, upd_same, hS]
        rw [if_neg h1] at ih
        simp only [Bool.not_false, if_true, Bool.not_true, Bool.false_eq_true, if_false, List.length_cons, List.mem_cons, true_or, ih]
      · rw [List.filter_cons, List.filter_cons, upd_other _ _ e]
        have h3 : (if k ∈ a :: r then 1 else 0) = (if k ∈ r then 1 else 0) := by
          have : (k ∈ a :: r) ↔ k ∈ r := by rw [List.mem_cons]; exact ⟨fun h => h.resolve_left (fun h => e h.symm), Or.inr⟩
          simp only [this]
        rw [h3]
        split
        · simp only [List.length_cons, ih]; omega
        · exact ih
  rw [key _ List.nodup_range]
  simp [hk]
theorem GrM.bit_visit (S : Nat → Bool) (k : Nat) : GrM.bit (upd S k true) = upd (GrM.bit S) k 1 := by
  funext x
  unfold GrM.bit upd
  by_cases e : x = k
  · simp [e]
  · simp [e]
theorem GrM.ints_one (l : List Nat) : ∀ u ∈ intVals (GrM.ints l), u.oneCell' = true := by
  intro u hu
  unfold intVals GrM.ints at hu
  simp at hu
  obtain ⟨a, _, rfl⟩ := hu
  rfl
theorem GrM.ints_append (a b : List Nat) : intVals (GrM.ints (a ++ b)) = intVals (GrM.ints a) ++ intVals (GrM.ints b) := by unfold intVals GrM.ints; simp
/-- Reach, in its loop. -/
structure GrM.ReAt (W1 : World) (A m : Nat) (l : List EgM) (x : Nat) (S : Nat → Bool) (Q : List Nat) (vq : Value) (wr : World) : Prop where
  below : Below A W1 wr
  tab : ITab wr A m (GrM.bit S)
  q : QRow wr (A + 1) 3 vq (intVals (GrM.ints Q))
  bfs : GrM.Bfs m l x S Q
  lt : ∀ y ∈ Q, y < m

set_option maxRecDepth 20000 in
set_option maxHeartbeats 8000000 in
theorem graphReach_any (n : Int) (l : List EgM) (a : Int) (ao : Option Addr) (cap : Nat) (w : World) (h : EgsAt w ao l) (hn : l.length ≤ 9000000000000) :
    Calls Try.prog 18 #[.int .i64 n, .slice ao l.length cap, .int .i64 a] w (GrM.ReachPost n l a w) := by
  obtain ⟨i0, hi0, hz0, hz1, hz2⟩ := info_parts Try.infoIntG
  have H := box h
  clear h
  go_enter Try.func18, Try.ntmps18
  go_wp2_with fail
  refine (graphCheck_any n l ao cap w H.out hn).mono ?_
  rintro e w1 ⟨rfl, hb1⟩
  have HB1 := box hb1
  clear hb1
  obtain ⟨c, HC⟩ : ∃ c, Box (GrM.check n l = c) := ⟨_, ⟨rfl⟩⟩
  rw [HC.out]
  cases d0 : (c == 0) with
  | false =>
    have d1 : (c != 0) = true := by simpa using d0
    have HC0 : Box (c ≠ 0) := ⟨by simpa using d0⟩
    go_wp2_with fail
    go_ret2
    exact ⟨HB1.out, Or.inl ⟨by rw [HC.out]; exact HC0.out, by rw [HC.out]; rfl⟩⟩
  | true =>
  obtain rfl : c = 0 := by simpa using d0
  obtain ⟨m, rfl, hm6, hl2, hf⟩ := GrM.check_ok HC.out
  have HFf := box hf
  clear hf
  cases d2 : decide (a < 0) with
  | true =>
    have HA0 : Box (a < 0) := ⟨of_decide_eq_true d2⟩
    go_wp2_with fail
    go_ret2
    exact ⟨HB1.out, Or.inr (Or.inl ⟨HC.out, Or.inl HA0.out, rfl⟩)⟩
  | false =>
  cases d3 : decide ((m : Int) ≤ a) with
  | true =>
    have HA0 : Box ((m : Int) ≤ a) := ⟨of_decide_eq_true d3⟩
    go_wp2_with fail
    go_ret2
    exact ⟨HB1.out, Or.inr (Or.inl ⟨HC.out, Or.inr HA0.out, rfl⟩)⟩
  | false =>
  obtain ⟨x, rfl⟩ : ∃ x : Nat, a = x := ⟨a.toNat, by have := of_decide_eq_false d2; omega⟩
  have hxm : x < m := by have := of_decide_eq_false d3; omega
  have hxm2 : (x : Int) < (m : Int) := by omega
  have d3' : decide (m ≤ x) = false := by simp; omega
  go_wp2_with fail
  refine (graphNext_any m l ao cap w1 (H.out.below HB1.out (Nat.le_refl _)) hl2 hm6 HFf.out).mono ?_
  rintro e W1 ⟨hb2, O, v, rfl, hO, hR⟩
  have HR := box hR
  have HB2 := box (below_tr HB1.out hb2)
  have hmk := run_make_tab (P := Try.prog) W1 31 3 i0 (.int .i64 0) Try.underlying31 hi0 hz0 hz1 rfl m (by rw [hz2]; omega) (by omega)
  obtain ⟨A, HAe⟩ : ∃ A, Box (W1.heap.size = A) := ⟨_, ⟨rfl⟩⟩
  have HRd : Box (∀ wx, Below A W1 wx → ∀ k, k < m → wx.cell? ⟨O, k, none⟩ = some (v k) ∧ ∃ a c, v k = .slice a (GrM.next m l k).length c ∧ ∀ j (hj : j < (GrM.next m l k).length), ∃ g, a = some ⟨g, 0, none⟩ ∧ wx.cell? ⟨g, j, none⟩ = some (.int .i64 ((GrM.next m l k)[j] : Int))) := ⟨fun wx hb k hk => HR.out.later (by rw [HAe.out]; exact hb) hk⟩
  have HShp : Box (∀ k, k < m → ∃ a c, v k = .slice a (GrM.next m l k).length c ∧ (a = none → (GrM.next m l k).length = 0 ∧ c = 0)) := ⟨fun k hk => by
    obtain ⟨a, c, h1, h2, _⟩ := HR.out.shape hk
    exact ⟨a, c, by rw [h1, GrM.ints_len], fun h => ⟨by have := congrArg List.length (h2 h).1; rw [GrM.ints_len] at this; exact this, (h2 h).2⟩⟩⟩
  obtain ⟨W2, HW2⟩ : ∃ x, Box (W1.alloc (.cells (Tab m (fun _ => (Value.int .i64 0))).toArray 3) = x) := ⟨_, ⟨rfl⟩⟩
  have HS2 : Box (Below A W1 W2 ∧ ITab W2 A m (GrM.bit (fun _ => false)) ∧ W2.heap.size = A + 1) := ⟨by
    rw [← HW2.out, ← HAe.out]
    exact ⟨(Below.refl _ _).alloc (Nat.le_refl _) _, Blk.new _ _ _, by simp⟩⟩
  rw [HW2.out, HAe.out] at hmk
  have hA0 : w.heap.size ≤ A := by have := HB2.out.size; have := HAe.out; omega
  clear hb2 hR hO HW2 d3
  obtain ⟨c0, na, nc, hv, hel⟩ := HRd.out W2 HS2.out.1 x hxm
  obtain ⟨na2, nc2, hv2, hnil⟩ := HShp.out x hxm
  have hvv := hv.symm.trans hv2
  injection hvv with e1 _ e2
  subst e1; subst e2
  rw [hv] at c0
  have hat : IntsAt W2 na (GrM.ints (GrM.next m l x)) := by
    by_cases h0 : (GrM.next m l x).length = 0
    · left
      have := List.eq_nil_of_length_eq_zero h0
      rw [this]; rfl
    · obtain ⟨g, e3, _⟩ := hel 0 (by omega)
      right
      refine ⟨g, 0, e3, ?_, fun j hj => ?_⟩
      · obtain ⟨g2, e4, hc4⟩ := hel 0 (by omega)
        have : g = g2 := by rw [e3] at e4; injection e4 with e4; injection e4
        subst this
        exact World.block_lt_of_cell? _ _ hc4
      · have hj' : j < (GrM.next m l x).length := by rwa [GrM.ints_len] at hj
        obtain ⟨g2, e4, hc4⟩ := hel j hj'
        have : g = g2 := by rw [e3] at e4; injection e4 with e4; injection e4
        subst this
        rw [Nat.zero_add, hc4]
        simp [GrM.ints]
  have hnl : (GrM.next m l x).length ≤ 60 := Nat.le_trans (GrM.next_len m l x) hm6
  have HCl := box (cloneInts_any (GrM.ints (GrM.next m l x)) na nc W2 hat (fun h => (hnil h).2) (by rw [GrM.ints_len]; omega))
  rw [GrM.ints_len] at HCl
  clear hv hv2 hel hat hnil
  go_wp2_with fail
  refine HCl.out.mono ?_
  rintro e W3 ⟨⟨vq, rfl, hown⟩, hb3⟩
  have HS3 : Box (GrM.ReAt W1 A m l x (fun _ => false) (GrM.next m l x) vq W3) := ⟨by
    refine ⟨?_, ?_, ?_, .start m l x, fun y hy => (GrM.mem_next.1 hy).1⟩
    · exact HS2.out.1.trans (hb3.mono (by have := HS2.out.2.2; omega))
    · exact Blk.after HS2.out.2.1 hb3
    · rw [HS2.out.2.2] at hown; exact QRow.of_own hown⟩
  clear hown hb3 HS2 hmk HCl
  obtain ⟨qa, qc, rfl⟩ : ∃ a c, vq = .slice a (GrM.next m l x).length c := by
    obtain ⟨a, c, h1⟩ := HS3.out.q.slice
    exact ⟨a, c, by rw [h1, intVals_len, GrM.ints_len]⟩
  go_wp2_with fail
  go_loopg [11] ((GrM.next m l x).length + 61 * GrM.unseen m (fun _ => false)) (fun f t11 wr => ∃ (S : Nat → Bool) (Q : List Nat) (a : Option Addr) (c : Nat), t11 = .slice a Q.length c ∧ f = Q.length + 61 * GrM.unseen m S ∧ f ≤ 4000 ∧ Box (GrM.ReAt W1 A m l x S Q (.slice a Q.length c) wr))
  case atStart => exact ⟨_, _, _, _, rfl, rfl, by
    have : GrM.unseen m (fun _ => false) ≤ m := by unfold GrM.unseen; exact Nat.le_trans (List.length_filter_le _ _) (by simp)
    omega, HS3⟩
  case round =>
    obtain ⟨S, Q, qa, qc, rfl, hgk, hg4, HQ⟩ := hrel
    clear HS3
    cases Q with
    | nil =>
      have HDn : Box (∀ b, S b = true ↔ GrM.Path m l x b) := ⟨fun b => HQ.out.bfs.done⟩
      have HO0 : Box (GrM.OrdAt W1 A m (GrM.bit S) (.slice none 0 0) [] wr) := ⟨⟨HQ.out.below, HQ.out.tab, World.ownsRow_nil _ _ _ _⟩⟩
      clear HQ
      rw [List.length_nil]
      go_wp2_with fail
      go_loopw [13, 63] (fun t13 t63 wx => ∃ (k : Nat) (a : Option Addr) (c : Nat), k ≤ m ∧ t63 = .int .i64 (k : Int) ∧ t13 = .slice a ((List.range k).filter S).length c ∧ Box (GrM.OrdAt W1 A m (GrM.bit S) (.slice a ((List.range k).filter S).length c) ((List.range k).filter S) wx)) (fun _ t63 _ => m - (RowKit.intOf t63).toNat)
      case atStart => exact ⟨0, none, 0, Nat.zero_le _, rfl, rfl, HO0⟩
      case round =>
        obtain ⟨k, oa, oc, hk, rfl, rfl, HO⟩ := hrel
        have hRl : ((List.range k).filter S).length ≤ 60 := Nat.le_trans (List.length_filter_le _ _) (by simp; omega)
        by_cases hkm : k < m
        case neg =>
          obtain rfl : k = m := by omega
          obtain ⟨R, HRs⟩ : ∃ R, Box ((List.range k).filter S = R) := ⟨_, ⟨rfl⟩⟩
          rw [HRs.out] at HO ⊢
          go_wp2_with fail
          go_ret2
          refine ⟨HB2.out.trans (HO.out.below.mono hA0), Or.inr (Or.inr ⟨HC.out, k, x, S, .slice oa R.length oc, rfl, rfl, hxm, HDn.out, rfl, ?_⟩)⟩
          rw [HRs.out]
          exact ownsRow_mono HO.out.own (by omega)
        have hkm2 : (k : Int) < (m : Int) := by omega
        have t0 := HO.out.tab.cell hkm
        have HSt : Box ((List.range (k + 1)).filter S = (List.range k).filter S ++ if S k = true then [k] else []) := ⟨by
          rw [List.range_succ, List.filter_append]
          congr 1
          by_cases h : S k = true <;> simp [h]⟩
        cases hS : S k with
        | false =>
          have hbit : GrM.bit S k = 0 := by unfold GrM.bit; rw [if_neg (by rw [hS]; decide)]
          rw [hbit] at t0
          have HEq : Box ((List.range (k + 1)).filter S = (List.range k).filter S) := ⟨by rw [HSt.out, hS]; simp⟩
          clear hbit
          obtain ⟨R, HRs⟩ : ∃ R, Box ((List.range k).filter S = R) := ⟨_, ⟨rfl⟩⟩
          rw [HRs.out] at HO HEq hRl ⊢
          go_wp2_with fail
          go_roundw
          case rel => exact ⟨k + 1, oa, oc, by omega, by go_num, by rw [HEq.out], by rw [HEq.out]; exact HO⟩
          case measure => simp [RowKit.intOf]; omega
        | true =>
          have hbit : GrM.bit S k = 1 := by unfold GrM.bit; rw [if_pos hS]
          rw [hbit] at t0
          have HEq : Box ((List.range (k + 1)).filter S = (List.range k).filter S ++ [k]) := ⟨by rw [HSt.out, hS]; simp⟩
          clear hbit
          obtain ⟨R, HRs⟩ : ∃ R, Box ((List.range k).filter S = R) := ⟨_, ⟨rfl⟩⟩
          rw [HRs.out] at HO HEq hRl ⊢
          have hown := (HO.out.own.alloc (.cells #[.int .i64 (k : Int)] 3))
          have hAs := Blk.lt HO.out.tab
          go_wp2_with (at_builtin; go_must (refine wpList_append_lies _ rfl _ _ 31 rfl (A + 1) 3 i0 _ 1 8 Try.underlying31 hi0 hz0 hz1 hz2 rfl (by decide) _ _ _ rfl hown ⟨wr.heap.size, 0, none⟩ 1 1 [.int .i64 (k : Int)] rfl rfl (cells_new wr [.int .i64 (k : Int)] 3) (by simp [Value.oneCell']) (by decide) (by unfold maxLen; omega) (by omega) (by simp; omega) (wr.heap.size + 1) (by simp) ?_))
          intro gg gcap w7 hown7 hgrow7 hat7 hlt7
          have hOL1 : (R ++ [k]).length = R.length + 1 := by simp
          have HNx : Box (GrM.OrdAt W1 A m (GrM.bit S) (.slice (some ⟨gg, 0, none⟩) (R.length + 1) gcap) (R ++ [k]) w7) := ⟨by
            refine ⟨?_, ?_, ?_⟩
            · exact (HO.out.below.alloc (by have := HO.out.below.size; have := HAe.out; omega) _).grown hgrow7 (by simp; omega) (fun b hb => by have := (HO.out.own.lt b hb).1; omega)
            · exact Blk.grown ((show Blk wr A _ _ from HO.out.tab).alloc _) hgrow7 (fun e => by have := (HO.out.own.lt A e).1; omega)
            · rw [hOL1, GrM.ints_append]
              exact hown7⟩
          clear hown7 hgrow7 hat7 hlt7 hown
          go_wp2_with fail
          go_roundw
          case rel => exact ⟨k + 1, some ⟨gg, 0, none⟩, gcap, by omega, by go_num, by rw [HEq.out, hOL1], by rw [HEq.out, hOL1]; exact HNx⟩
          case measure => simp [RowKit.intOf]; omega
    | cons k r =>
      have hkm := HQ.out.lt k List.mem_cons_self
      obtain ⟨g, off, cp, hqe, hrow⟩ := HQ.out.q.resolve_left (by rintro ⟨_, h⟩; simp [intVals, GrM.ints] at h)
      injection hqe with hq1 _ hq3
      subst hq1; subst hq3
      rw [intVals_len, GrM.ints_len] at hrow
      have hle := hrow.le
      have hmx := hrow.mx
      unfold maxLen at hmx
      have k0 := hrow.cell (j := 0) (u := .int .i64 (k : Int)) rfl
      rw [Nat.add_zero] at k0
      rw [List.length_cons] at hle hgk ⊢
      have hrow2 := hrow
      rw [List.length_cons] at hrow2
      have HTail := box (OffRow.tail hrow2)
      obtain ⟨q, Hq⟩ : ∃ q, Box (r.length = q) := ⟨_, ⟨rfl⟩⟩
      rw [Hq.out] at hle hgk HTail ⊢
      have hkm2 : (k : Int) < (m : Int) := by omega
      have t0 := HQ.out.tab.cell hkm
      have z0 := Blk.frozen HQ.out.tab k
      clear hrow hrow2
      by_cases hc1 : qc = 1
      · subst hc1
        obtain rfl : q = 0 := by omega
        have HT : Box (OffRow wr (A + 1) 3 g off 0 0 (intVals (GrM.ints r))) := ⟨by
          have h1 := HTail.out
          have hr0 : r = [] := List.eq_nil_of_length_eq_zero (Hq.out)
          subst hr0
          obtain ⟨cur, a1, a2, a3⟩ := h1.row
          exact ⟨h1.base, Nat.le_refl _, by decide, rfl, cur, a1, by omega, fun j u hu => by simp [intVals, GrM.ints] at hu⟩⟩
        clear HTail
        cases hS : S k with
        | true =>
          have hbit : GrM.bit S k = 1 := by unfold GrM.bit; rw [if_pos hS]
          rw [hbit] at t0
          clear hbit
          have HNx : Box (GrM.ReAt W1 A m l x S r (.slice (some ⟨g, off, none⟩) r.length (0)) wr) := ⟨by
            refine ⟨HQ.out.below, HQ.out.tab, Or.inr ⟨g, off, 0, by rw [intVals_len, GrM.ints_len], ?_⟩, HQ.out.bfs.skip hS, fun y hy => HQ.out.lt y (List.mem_cons_of_mem _ hy)⟩
            rw [intVals_len, GrM.ints_len, Hq.out]
            exact HT.out⟩
          go_wp2_with fail
          go_roundg (0 + 61 * GrM.unseen m S)
          case measure => omega
          case rel => exact ⟨S, r, some ⟨g, off, none⟩, 0, by rw [Hq.out], by rw [Hq.out], by omega, HNx⟩
        | false =>
          have hbit : GrM.bit S k = 0 := by unfold GrM.bit; rw [if_neg (by rw [hS]; decide)]
          rw [hbit] at t0
          clear hbit
          have HUn := box (GrM.unseen_visit hkm hS)
          have HT1 : Box (ITab (wr.setCell ⟨A, k, none⟩ (.int .i64 1)) A m (GrM.bit (upd S k true))) := ⟨by rw [GrM.bit_visit]; exact HQ.out.tab.set k 1⟩
          have HB1' : Box (Below A W1 (wr.setCell ⟨A, k, none⟩ (.int .i64 1))) := ⟨HQ.out.below.setCell (Nat.le_refl _) _⟩
          have HAlt := Blk.lt HT1.out
          have HQ1 : Box (QRow (wr.setCell ⟨A, k, none⟩ (.int .i64 1)) (A + 1) 3 (.slice (some ⟨g, off, none⟩) 0 (0)) (intVals (GrM.ints r))) := ⟨by
            refine Or.inr ⟨g, off, 0, by rw [intVals_len, GrM.ints_len, Hq.out], ?_⟩
            rw [intVals_len, GrM.ints_len, Hq.out]
            exact HT.out.kept (Below.heap_setCell _ _ _ _ (by show g ≠ A; have := HT.out.base; omega))⟩
          obtain ⟨c2, na2, nc2, hv2, hel2⟩ := HRd.out _ HB1'.out k hkm
          obtain ⟨na3, nc3, hv3, hnil3⟩ := HShp.out k hkm
          have hvv := hv2.symm.trans hv3
          injection hvv with e1 _ e2
          subst e1; subst e2
          rw [hv2] at c2
          have hnl2 : (GrM.next m l k).length ≤ 60 := Nat.le_trans (GrM.next_len m l k) hm6
          have HEl : Box (∀ ad, na2 = some ad → ∀ j u, (intVals (GrM.ints (GrM.next m l k)))[j]? = some u → (wr.setCell ⟨A, k, none⟩ (.int .i64 1)).cell? (ad.add j) = some u) := ⟨fun ad had j u hu => by
            have hj : j < (GrM.next m l k).length := by
              have := (List.getElem?_eq_some_iff.1 hu).1
              rwa [intVals_len, GrM.ints_len] at this
            obtain ⟨g2, e4, hc4⟩ := hel2 j hj
            rw [had] at e4
            injection e4 with e4
            subst e4
            rw [Addr.add_lit, Nat.zero_add, hc4, ← GrM.ints_get hj, hu]⟩
          have HNl := box hnil3
          have hrl : r.length ≤ 4000 := by have := Hq.out; omega
          obtain ⟨LN, HLN⟩ : ∃ LN, Box ((GrM.next m l k).length = LN) := ⟨_, ⟨rfl⟩⟩
          have HLi : Box ((intVals (GrM.ints (GrM.next m l k))).length = LN) := ⟨by rw [intVals_len, GrM.ints_len]; exact HLN.out⟩
          rw [HLN.out] at c2 hnl2 HNl
          have hbz : A + 1 ≤ (wr.setCell ⟨A, k, none⟩ (.int .i64 1)).heap.size := HAlt
          have hxl : (intVals (GrM.ints r)).length = 0 := by rw [intVals_len, GrM.ints_len]; exact Hq.out
          have HXl := box hxl
          clear hv2 hv3 hel2 hnil3 hxl
          go_wp2_with (at_builtin; go_must (refine wpList_append_queue rfl _ _ 31 rfl (A + 1) 3 i0 (.int .i64 0) 8 Try.underlying31 hi0 hz0 hz1 hz2 rfl _ _ rfl HQ1.out hbz na2 LN nc2 (intVals (GrM.ints (GrM.next m l k))) rfl HLi.out HNl.out HEl.out (GrM.ints_one _) (by rw [HXl.out]; unfold maxLen; omega) (by rw [HXl.out]; omega) ?_))
          intro qa' qc' w7 hq7 hk7 ho7 ht7 hp7 hs7
          have hln : (intVals (GrM.ints r)).length + (intVals (GrM.ints (GrM.next m l k))).length = (r ++ GrM.next m l k).length := by
            rw [intVals_len, GrM.ints_len, intVals_len, GrM.ints_len, List.length_append]
          rw [← GrM.ints_append] at hq7
          rw [hln] at hq7 ⊢
          have HNx : Box (GrM.ReAt W1 A m l x (upd S k true) (r ++ GrM.next m l k) (.slice qa' (r ++ GrM.next m l k).length qc') w7) := ⟨by
            refine ⟨HB1'.out.trans ⟨ho7, ht7, hp7, by simpa using hs7, fun j hj => hk7 j (by omega)⟩, ?_, hq7, HQ.out.bfs.visit, fun y hy => ?_⟩
            · exact (hk7 A (by omega)).trans HT1.out
            · rcases List.mem_append.1 hy with hy | hy
              · exact HQ.out.lt y (List.mem_cons_of_mem _ hy)
              · exact (GrM.mem_next.1 hy).1⟩
          have hrn : (r ++ GrM.next m l k).length = 0 + LN := by rw [List.length_append, Hq.out, HLN.out]
          have hun := HUn.out
          clear hq7 hk7 ho7 ht7 hp7 hs7 hln
          go_wp2_with fail
          go_roundg (0 + LN + 61 * GrM.unseen m (upd S k true))
          case measure => omega
          case rel => exact ⟨upd S k true, r ++ GrM.next m l k, qa', qc', rfl, by rw [hrn], by omega, HNx⟩
      · have hc2 : 1 < qc := by omega
        have HT : Box (OffRow wr (A + 1) 3 g (off + 1) q (qc - 1) (intVals (GrM.ints r))) := ⟨by
          have h1 := HTail.out
          rw [Nat.add_sub_cancel] at h1
          exact h1⟩
        clear HTail
        cases hS : S k with
        | true =>
          have hbit : GrM.bit S k = 1 := by unfold GrM.bit; rw [if_pos hS]
          rw [hbit] at t0
          clear hbit
          have HNx : Box (GrM.ReAt W1 A m l x S r (.slice (some ⟨g, off + 1, none⟩) r.length (qc - 1)) wr) := ⟨by
            refine ⟨HQ.out.below, HQ.out.tab, Or.inr ⟨g, off + 1, qc - 1, by rw [intVals_len, GrM.ints_len], ?_⟩, HQ.out.bfs.skip hS, fun y hy => HQ.out.lt y (List.mem_cons_of_mem _ hy)⟩
            rw [intVals_len, GrM.ints_len, Hq.out]
            exact HT.out⟩
          go_wp2_with fail
          go_roundg (q + 61 * GrM.unseen m S)
          case measure => omega
          case rel => exact ⟨S, r, some ⟨g, off + 1, none⟩, qc - 1, by rw [Hq.out], by rw [Hq.out], by omega, HNx⟩
        | false =>
          have hbit : GrM.bit S k = 0 := by unfold GrM.bit; rw [if_neg (by rw [hS]; decide)]
          rw [hbit] at t0
          clear hbit
          have HUn := box (GrM.unseen_visit hkm hS)
          have HT1 : Box (ITab (wr.setCell ⟨A, k, none⟩ (.int .i64 1)) A m (GrM.bit (upd S k true))) := ⟨by rw [GrM.bit_visit]; exact HQ.out.tab.set k 1⟩
          have HB1' : Box (Below A W1 (wr.setCell ⟨A, k, none⟩ (.int .i64 1))) := ⟨HQ.out.below.setCell (Nat.le_refl _) _⟩
          have HAlt := Blk.lt HT1.out
          have HQ1 : Box (QRow (wr.setCell ⟨A, k, none⟩ (.int .i64 1)) (A + 1) 3 (.slice (some ⟨g, off + 1, none⟩) q (qc - 1)) (intVals (GrM.ints r))) := ⟨by
            refine Or.inr ⟨g, off + 1, qc - 1, by rw [intVals_len, GrM.ints_len, Hq.out], ?_⟩
            rw [intVals_len, GrM.ints_len, Hq.out]
            exact HT.out.kept (Below.heap_setCell _ _ _ _ (by show g ≠ A; have := HT.out.base; omega))⟩
          obtain ⟨c2, na2, nc2, hv2, hel2⟩ := HRd.out _ HB1'.out k hkm
          obtain ⟨na3, nc3, hv3, hnil3⟩ := HShp.out k hkm
          have hvv := hv2.symm.trans hv3
          injection hvv with e1 _ e2
          subst e1; subst e2
          rw [hv2] at c2
          have hnl2 : (GrM.next m l k).length ≤ 60 := Nat.le_trans (GrM.next_len m l k) hm6
          have HEl : Box (∀ ad, na2 = some ad → ∀ j u, (intVals (GrM.ints (GrM.next m l k)))[j]? = some u → (wr.setCell ⟨A, k, none⟩ (.int .i64 1)).cell? (ad.add j) = some u) := ⟨fun ad had j u hu => by
            have hj : j < (GrM.next m l k).length := by
              have := (List.getElem?_eq_some_iff.1 hu).1
              rwa [intVals_len, GrM.ints_len] at this
            obtain ⟨g2, e4, hc4⟩ := hel2 j hj
            rw [had] at e4
            injection e4 with e4
            subst e4
            rw [Addr.add_lit, Nat.zero_add, hc4, ← GrM.ints_get hj, hu]⟩
          have HNl := box hnil3
          have hrl : r.length ≤ 4000 := by have := Hq.out; omega
          obtain ⟨LN, HLN⟩ : ∃ LN, Box ((GrM.next m l k).length = LN) := ⟨_, ⟨rfl⟩⟩
          have HLi : Box ((intVals (GrM.ints (GrM.next m l k))).length = LN) := ⟨by rw [intVals_len, GrM.ints_len]; exact HLN.out⟩
          rw [HLN.out] at c2 hnl2 HNl
          have hbz : A + 1 ≤ (wr.setCell ⟨A, k, none⟩ (.int .i64 1)).heap.size := HAlt
          have hxl : (intVals (GrM.ints r)).length = q := by rw [intVals_len, GrM.ints_len]; exact Hq.out
          have HXl := box hxl
          clear hv2 hv3 hel2 hnil3 hxl
          go_wp2_with (at_builtin; go_must (refine wpList_append_queue rfl _ _ 31 rfl (A + 1) 3 i0 (.int .i64 0) 8 Try.underlying31 hi0 hz0 hz1 hz2 rfl _ _ rfl HQ1.out hbz na2 LN nc2 (intVals (GrM.ints (GrM.next m l k))) rfl HLi.out HNl.out HEl.out (GrM.ints_one _) (by rw [HXl.out]; unfold maxLen; omega) (by rw [HXl.out]; omega) ?_))
          intro qa' qc' w7 hq7 hk7 ho7 ht7 hp7 hs7
          have hln : (intVals (GrM.ints r)).length + (intVals (GrM.ints (GrM.next m l k))).length = (r ++ GrM.next m l k).length := by
            rw [intVals_len, GrM.ints_len, intVals_len, GrM.ints_len, List.length_append]
          rw [← GrM.ints_append] at hq7
          rw [hln] at hq7 ⊢
          have HNx : Box (GrM.ReAt W1 A m l x (upd S k true) (r ++ GrM.next m l k) (.slice qa' (r ++ GrM.next m l k).length qc') w7) := ⟨by
            refine ⟨HB1'.out.trans ⟨ho7, ht7, hp7, by simpa using hs7, fun j hj => hk7 j (by omega)⟩, ?_, hq7, HQ.out.bfs.visit, fun y hy => ?_⟩
            · exact (hk7 A (by omega)).trans HT1.out
            · rcases List.mem_append.1 hy with hy | hy
              · exact HQ.out.lt y (List.mem_cons_of_mem _ hy)
              · exact (GrM.mem_next.1 hy).1⟩
          have hrn : (r ++ GrM.next m l k).length = q + LN := by rw [List.length_append, Hq.out, HLN.out]
          have hun := HUn.out
          clear hq7 hk7 ho7 ht7 hp7 hs7 hln
          go_wp2_with fail
          go_roundg (q + LN + 61 * GrM.unseen m (upd S k true))
          case measure => omega
          case rel => exact ⟨upd S k true, r ++ GrM.next m l k, qa', qc', rfl, by rw [hrn], by omega, HNx⟩
end Go.Proofs.Ytgkclgmekbgjmaa
