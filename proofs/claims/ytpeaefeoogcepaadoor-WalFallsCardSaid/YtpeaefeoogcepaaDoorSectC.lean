/- The disk's Crash. -/
import Derived.Test.YtpeaefeoogcepaaDoorSectX
namespace Go.Proofs.YtpeaefeoogcepaaDoor
open Go.RowKit Go.Lib

def FlagsAt (w : World) (ao : Option Addr) (l : List Bool) : Prop :=
  l = [] ∨ ∃ b off, ao = some ⟨b, off, none⟩ ∧ b < w.heap.size ∧ ∀ k (h : k < l.length), w.cell? ⟨b, off + k, none⟩ = some (.bool l[k])
theorem FlagsAt.below {B : Nat} {w w' : World} {ao : Option Addr} {l : List Bool} (h : FlagsAt w ao l) (hb : Below B w w') (hB : w.heap.size ≤ B) : FlagsAt w' ao l := by
  rcases h with h | ⟨b, off, h1, h2, h3⟩
  · exact Or.inl h
  · exact Or.inr ⟨b, off, h1, Nat.lt_of_lt_of_le h2 hb.size, fun k hk => (hb.cell (p := ⟨b, off + k, none⟩) (by show b < B; omega)).trans (h3 k hk)⟩
theorem SectM.keepOn_step (keep : List Bool) (l : List (Nat × ByteArray)) (i : Nat) (h : i < l.length) (s : List ByteArray) :
    SectM.keepOn keep i (l.drop i) s = SectM.keepOn keep (i + 1) (l.drop (i + 1)) (if keep.getD i false = true then s.set l[i].1 l[i].2 else s) := by
  rw [List.drop_eq_getElem_cons h]
  rfl
section
variable {w : World} {base D gs n c1 : Nat} {ve vl : Value} {d : DiskM}
/-- A store into the row of what is safe. -/
theorem SectM.At.setSafe (h : SectM.At w base D (.slice (some ⟨gs, 0, none⟩) n c1) ve vl d) (hn : d.safe.length = n) (k : Nat) (t : ByteArray) :
    SectM.At (w.setCell ⟨gs, k, none⟩ (.string t)) base D (.slice (some ⟨gs, 0, none⟩) n c1) ve vl { d with safe := d.safe.set k t } ∧ w.grownBy (w.setCell ⟨gs, k, none⟩ (.string t)) (some gs) := by
  subst hn
  obtain ⟨ho, hg⟩ := h.safe.stored k (.string t)
  refine ⟨⟨h.blk.grown hg (fun e => h.blk.ne_own h.safe (by decide) e), h.lt, ?_, h.seen.kept hg (Or.inr (fun e => h.apart gs rfl e)), h.late.kept hg (Or.inr ?_), h.apart, h.left⟩, hg⟩
  · have e : (strVals d.safe).set k (.string t) = strVals (d.safe.set k t) := by unfold strVals; rw [List.map_set]
    rw [e] at ho
    show (w.setCell ⟨gs, k, none⟩ (.string t)).ownsRow base _ 1 _ (d.safe.set k t).length _
    rw [List.length_set]; exact ho
  · intro hb
    rcases h.late.2 with ⟨rfl, _⟩ | ⟨g, cap, cur, rfl, _, hg1, _⟩
    · simp [Value.ownBlock] at hb
    · simp [Value.ownBlock] at hb
      subst hb
      rcases h.safe.2 with ⟨h3, _⟩ | ⟨g', cap', cur', h3, _, hg2, _⟩
      · cases h3
      · simp only [Value.slice.injEq, Option.some.injEq, Addr.mk.injEq, and_true] at h3
        obtain ⟨rfl, _⟩ := h3
        rw [hg1] at hg2
        simp at hg2
/-- The row of what is seen has been laid anew. -/
theorem SectM.At.copiedE {w' : World} {vs : Value} {ge c2 : Nat} (h : SectM.At w base D vs (.slice (some ⟨ge, 0, none⟩) n c2) vl d) (hn : d.safe.length = n)
    (ho : w'.ownsRow base 9 1 (.slice (some ⟨ge, 0, none⟩) n c2) n (strVals d.safe)) (hg : w.grownBy w' (some ge)) :
    SectM.At w' base D vs (.slice (some ⟨ge, 0, none⟩) n c2) vl { d with seen := d.safe } := by
  subst hn
  have hle : vl.ownBlock ≠ some ge := by
    intro hb
    rcases h.late.2 with ⟨rfl, _⟩ | ⟨g, cap, cur, rfl, _, hg1, _⟩
    · simp [Value.ownBlock] at hb
    · simp [Value.ownBlock] at hb
      subst hb
      rcases h.seen.2 with ⟨h3, _⟩ | ⟨g', cap', cur', h3, _, hg2, _⟩
      · cases h3
      · simp only [Value.slice.injEq, Option.some.injEq, Addr.mk.injEq, and_true] at h3
        obtain ⟨rfl, _⟩ := h3
        rw [hg1] at hg2
        simp at hg2
  exact ⟨h.blk.grown hg (fun e => h.blk.ne_own h.seen (by decide) e), h.lt, h.safe.kept hg (Or.inr (fun e => h.apart ge e rfl)), ho, h.late.kept hg (Or.inr hle), h.apart, h.left⟩
end

theorem SectM.Mv.drew {w w1 : World} {base D : Nat} {vs ve vl vl1 : Value} {d1 : DiskM} (h : SectM.Mv w base D vs ve vl d1 vl1 w1) : SectM.Mv w base D vs ve vl d1 vl1 w1.drew := ⟨h.at_.drew, h.kept.drew, h.own⟩

set_option maxRecDepth 20000 in
set_option maxHeartbeats 8000000 in
theorem sectCrash_any (w : World) (base D : Nat) (vs ve vl : Value) (d : DiskM) (h : SectM.At w base D vs ve vl d) (hbase : base ≤ w.heap.size) (hn : d.seen.length = d.safe.length) (h1 : 1 ≤ d.safe.length) (h2 : d.safe.length ≤ 256) (hl : d.late.length ≤ 5000000000000) (hlt : ∀ x ∈ d.late, x.1 < d.safe.length)
    (ks : List Bool) (ao : Option Addr) (cap : Nat) (hk : ∀ W, Below base w W → FlagsAt W ao ks) :
    Calls Tryd.prog 12 #[.pointer (some ⟨D, 0, none⟩), .slice ao ks.length cap] w fun e w' => e = .returned (.tuple #[]) ∧ SectM.Moved w base D vs ve vl (SectM.crash d ks) w' := by
  obtain ⟨gs, cs, rfl, hcs⟩ := h.rowS h1
  obtain ⟨ge, ce, rfl, hce⟩ := h.rowE (by omega)
  have HCr := box (show SectM.crash d ks = { safe := SectM.keepOn ks 0 d.late d.safe, seen := SectM.keepOn ks 0 d.late d.safe, late := [], left := -1 } from rfl)
  obtain ⟨N, HN⟩ : ∃ N, Box (d.safe.length = N) := ⟨_, ⟨rfl⟩⟩
  obtain ⟨M, HM⟩ : ∃ M, Box (d.late.length = M) := ⟨_, ⟨rfl⟩⟩
  obtain ⟨K, HK⟩ : ∃ K, Box (ks.length = K) := ⟨_, ⟨rfl⟩⟩
  have HN2 : Box (d.seen.length = N) := ⟨hn.trans HN.out⟩
  have HLt : Box (∀ i (h : i < d.late.length), d.late[i].1 < N) := ⟨fun i h => by rw [← HN.out]; exact hlt _ (List.getElem_mem h)⟩
  have HKs := box hk
  obtain ⟨la, lc, rfl⟩ : ∃ a c, vl = .slice a d.late.length c := by
    rcases h.late.2 with ⟨h3, h4⟩ | ⟨g, cap, cur, h3, _⟩
    · exact ⟨none, 0, by rw [h3, h4]⟩
    · exact ⟨_, _, h3⟩
  have HB0 := box hbase
  have y2 := h.blk.cell (i := 2) rfl
  have HA0 := box h
  rw [HN2.out, HN.out, HM.out] at HA0
  rw [HM.out] at y2 hl
  rw [HN2.out] at hce
  rw [HN.out] at hcs h1 h2
  rw [HN2.out, HN.out, HM.out, HK.out]
  clear h hn hlt hk hbase
  go_enter Tryd.func12, Tryd.ntmps12
  go_wp2_with fail
  go_loopw [11] (fun t11 wr => ∃ j s, j ≤ M ∧ t11 = .int .i64 (j : Int) ∧ Box (SectM.Mv w base D (.slice (some ⟨gs, 0, none⟩) N cs) (.slice (some ⟨ge, 0, none⟩) N ce) (.slice la M lc) { d with safe := s } (.slice la M lc) wr ∧ s.length = N ∧ SectM.keepOn ks j (d.late.drop j) s = SectM.keepOn ks 0 d.late d.safe)) (fun t11 _ => M - (RowKit.intOf t11).toNat)
  case atStart => exact ⟨0, d.safe, Nat.zero_le _, rfl, ⟨SectM.Mv.refl HA0.out, HN.out, rfl⟩⟩
  case round =>
    obtain ⟨j, s, hj, rfl, HR⟩ := hrel
    have hsz := HR.out.1.kept.size
    by_cases hlt : j < M
    · have hjl : j < d.late.length := by rw [HM.out]; exact hlt
      obtain ⟨g, hla, hgb, hgl⟩ : ∃ g, la = some ⟨g, 0, none⟩ ∧ base ≤ g ∧ g < wr.heap.size := by
        have hlate := HR.out.1.at_.late
        obtain ⟨g, lc', h3, h4, h5, _⟩ := ownsRow_shape hlate (by rintro h3; rcases hlate.2 with ⟨_, h4⟩ | ⟨_, _, _, h4, _⟩; exact absurd h4 (by show ¬ d.late.length = 0; omega); rw [h3] at h4; cases h4)
        injection h3 with h3 _
        exact ⟨g, h3, h4, h5⟩
      subst hla
      have hcl := HR.out.1.at_.late.cells (g := g) rfl
      have hg := lateVals_get d.late j hjl
      have c0 := hcl (j * 2) _ hg.1
      have c1 := hcl (j * 2 + 1) _ hg.2
      rw [Addr.add_lit, Nat.zero_add] at c0 c1
      have HLj : Box (d.late[j].1 < N) := ⟨HLt.out j hjl⟩
      have HSt := box (SectM.keepOn_step ks d.late j hjl s)
      obtain ⟨q, t, HQ⟩ : ∃ q t, Box (d.late[j] = (q, t)) := ⟨_, _, ⟨rfl⟩⟩
      rw [HQ.out] at c0 c1 HLj HSt
      have hq : q < N := HLj.out
      have HRA := box (HR.out.1.at_.alloc (.cells #[.int .i64 (q : Int), .string t] 61))
      have y0 := HRA.out.blk.cell (i := 0) rfl
      have HB : Box (Below base w (wr.alloc (.cells #[.int .i64 (q : Int), .string t] 61))) := ⟨(HR.out.1.kept.alloc _).below HB0.out (fun b hb => (HA0.out.mine_lt hb).1)⟩
      have hfl := HKs.out _ HB.out
      have HFl := box hfl
      clear hcl hg hfl
      have HMvA := box (show SectM.Mv w base D (.slice (some ⟨gs, 0, none⟩) N cs) (.slice (some ⟨ge, 0, none⟩) N ce) (.slice (some ⟨g, 0, none⟩) M lc) { d with safe := s } (.slice (some ⟨g, 0, none⟩) M lc) (wr.alloc (.cells #[.int .i64 (q : Int), .string t] 61)) from ⟨HRA.out, HR.out.1.kept.alloc _, HR.out.1.own⟩)
      by_cases hjk : j < K
      · cases hkj : ks.getD j false with
        | true =>
          obtain ⟨kb, ko, rfl, hkb, hkr⟩ := HFl.out.resolve_left (by intro h; have := HK.out; rw [h] at this; simp at this; omega)
          have e3 : ks[j]'(by rw [HK.out]; exact hjk) = true := by rw [List.getD_eq_getElem?_getD, List.getElem?_eq_getElem (by rw [HK.out]; exact hjk)] at hkj; exact hkj
          have k0 := hkr j (by rw [HK.out]; exact hjk)
          rw [e3] at k0
          clear hkb hkr e3
          have HG : Box (ks.getD j false = true) := ⟨hkj⟩
          clear hkj
          go_upto_region 4 with (fail)
          have hbx := Blk.new wr [.int .i64 (q : Int), .string t] 61
          have b0 := hbx.cell (i := 0) rfl
          have b1 := hbx.cell (i := 1) rfl
          have HSn : Box (s.length = N) := ⟨HR.out.2.1⟩
          obtain ⟨xo, so⟩ : ∃ xo, (wr.alloc (.cells #[.int .i64 (q : Int), .string t] 61)).cell? ⟨gs, q, none⟩ = some (.string xo) := by
            have hqs : q < s.length := by rw [HSn.out]; exact hq
            have := HMvA.out.at_.safe.cells (g := gs) rfl q _ (strVals_get hqs)
            rw [Addr.add_lit, Nat.zero_add] at this
            exact ⟨_, this⟩
          have hsf := HMvA.out.at_.safe
          have hnl : ({ d with safe := s } : DiskM).safe.length = N := HSn.out
          rw [hnl] at hsf
          have sz := hsf.frozenAt q
          have hset := HMvA.out.at_.setSafe HSn.out q t
          have HNext : Box (SectM.Mv w base D (.slice (some ⟨gs, 0, none⟩) N cs) (.slice (some ⟨ge, 0, none⟩) N ce) (.slice (some ⟨g, 0, none⟩) M lc) { d with safe := s.set q t } (.slice (some ⟨g, 0, none⟩) M lc) (((wr.alloc (.cells #[.int .i64 (q : Int), .string t] 61)).setCell ⟨gs, q, none⟩ (.string t)))) := ⟨hset.1, HMvA.out.kept.grown hset.2 (fun b hb => Or.inl (Or.inr (Or.inl hb))), HMvA.out.own⟩
          clear hbx hsf hnl hset
          obtain ⟨Bx, HBx⟩ : ∃ x, Box (wr.heap.size = x) := ⟨_, ⟨rfl⟩⟩
          obtain ⟨W, HW⟩ : ∃ W, Box (wr.alloc (.cells #[.int .i64 (q : Int), .string t] 61) = W) := ⟨_, ⟨rfl⟩⟩
          rw [HW.out] at y0 b0 b1 so sz HNext k0 ⊢
          rw [HBx.out] at b0 b1 ⊢
          clear hsz hgl c0 c1
          go_region
          all_goals
            go_wp2_with fail
            go_roundw
            case rel => exact ⟨j + 1, s.set q t, by omega, by go_num, ⟨by first | exact HNext.out.drew | exact HNext.out, by rw [List.length_set]; exact HSn.out, by rw [← HR.out.2.2, HSt.out, if_pos HG.out]⟩⟩
            case measure => simp [RowKit.intOf]; omega
        | false =>
          obtain ⟨kb, ko, rfl, hkb, hkr⟩ := HFl.out.resolve_left (by intro h; have := HK.out; rw [h] at this; simp at this; omega)
          have e3 : ks[j]'(by rw [HK.out]; exact hjk) = false := by rw [List.getD_eq_getElem?_getD, List.getElem?_eq_getElem (by rw [HK.out]; exact hjk)] at hkj; exact hkj
          have k0 := hkr j (by rw [HK.out]; exact hjk)
          rw [e3] at k0
          clear hkb hkr e3
          have HG : Box (ks.getD j false = false) := ⟨hkj⟩
          clear hkj
          go_wp2_with fail
          go_roundw
          case rel => exact ⟨j + 1, s, by omega, by go_num, ⟨HMvA.out, HR.out.2.1, by rw [← HR.out.2.2, HSt.out, if_neg (by rw [HG.out]; decide)]⟩⟩
          case measure => simp [RowKit.intOf]; omega
      · have HG : Box (ks.getD j false = false) := ⟨by rw [List.getD_eq_getElem?_getD, List.getElem?_eq_none (by rw [HK.out]; omega)]; rfl⟩
        go_wp2_with fail
        go_roundw
        case rel => exact ⟨j + 1, s, by omega, by go_num, ⟨HMvA.out, HR.out.2.1, by rw [← HR.out.2.2, HSt.out, if_neg (by rw [HG.out]; decide)]⟩⟩
        case measure => simp [RowKit.intOf]; omega
    · obtain rfl : j = M := by omega
      have HSn : Box (s.length = N) := ⟨HR.out.2.1⟩
      have HSe : Box (s = SectM.keepOn ks 0 d.late d.safe) := ⟨by
        rw [← HR.out.2.2, ← HM.out, List.drop_length]; rfl⟩
      have HA := box HR.out.1.at_
      have y0 := HA.out.blk.cell (i := 0) rfl
      have y1 := HA.out.blk.cell (i := 1) rfl
      have HOwn := box HA.out.seen
      have hnl : ({ d with safe := s } : DiskM).seen.length = N := HN2.out
      rw [hnl] at HOwn
      have HCell : Box (∀ i v, (strVals s)[i]? = some v → wr.cell? ⟨gs, i, none⟩ = some v) := ⟨fun i v hv => by
        have := HA.out.safe.cells (g := gs) rfl i v hv
        rwa [Addr.add_lit, Nat.zero_add] at this⟩
      have HL : Box ((strVals s).length = N) := ⟨(strVals_length _).trans HSn.out⟩
      clear hnl hsz
      go_wp2_with fail
      go_region_law ((refine step_copy_grown rfl (.tmp 39) (.tmp 43) 22 22 rfl 9 Tryd.underlying22 Tryd.infoStr ge gs N ce cs (by simp [Act.eval]) (by simp [Act.eval]) base 9 _ _ (by first | exact HOwn.out | exact HOwn.out.drew) HL.out (by first | exact HCell.out) (strVals_oneCell _) ?_; intro w2 hown hgr; have HW2 := box (And.intro hown hgr); have HA2 := box ((HA.out.drew.copiedE HSn.out hown hgr).setNil.setLeft (n := -1) (by omega)); have HB2 := box (HA.out.drew.copiedE HSn.out hown hgr).blk; have z2 := HB2.out.frozen 2; have x2 := HB2.out.cell (i := 2) rfl; have z3 := HB2.out.frozen 3; have x3 := HB2.out.cell (i := 3) rfl; clear hown hgr))
      all_goals
        go_wp2_with fail
        refine bodyPost_end (results_none rfl _ _ _) rfl ⟨rfl, .slice none 0 0, ?_, ?_, fun _ h => by cases h⟩
        · rw [HCr.out, ← HSe.out]; exact HA2.out
        · exact ((HR.out.1.kept.drew.grown HW2.out.2 (fun b hb => Or.inl (Or.inr (Or.inr (Or.inl hb))))).set (Or.inl (Or.inl rfl)) _ _).set (Or.inl (Or.inl rfl)) _ _
end Go.Proofs.YtpeaefeoogcepaaDoor
