/- The disk's Write. -/
import Derived.Test.YtpeaefeoogcepaaDoorSectF
import Derived.Test.YtpeaefeoogcepaaDoorShRep
import Derived.Deep.DeepMust
namespace Go.Proofs.YtpeaefeoogcepaaDoor
open Go.RowKit Go.Lib

theorem repeatL_one (x : UInt8) : ∀ n, Lib.repeatL [x] n = List.replicate n x
  | 0 => rfl
  | n + 1 => by
    show [x] ++ Lib.repeatL [x] n = _
    rw [repeatL_one x n]; rfl
/-- strings.Repeat("\x00", n). -/
theorem repeat_zeros (n : Nat) (w : World) (h : n ≤ 1000) :
    Calls Tryd.prog 25 #[.string ⟨#[0]⟩, .int .i64 (n : Int)] w fun e w' => e = .returned (.string (SectM.zeros n)) ∧ Below w.heap.size w w' := by
  refine (Tryd.strings_Repeat ⟨#[0]⟩ n w (by omega) (by show 1 * n ≤ _; omega)).mono ?_
  rintro e w' ⟨rfl, hb⟩
  refine ⟨?_, hb⟩
  show Ending.returned (.string ⟨(Lib.repeatL [0] n).toArray⟩) = _
  rw [repeatL_one]
  rfl
theorem pad_eq (t : ByteArray) : t ++ SectM.zeros (64 - t.size) = SectM.pad t := by
  unfold SectM.pad SectM.zeros
  apply ByteArray.ext
  rw [ByteArray.data_append]
  apply Array.ext'
  simp

section
variable {w w' : World} {base D ge n c2 : Nat} {vs vl : Value} {d : DiskM}
/-- A store into the row of what is seen. -/
theorem SectM.At.setSeen (h : SectM.At w base D vs (.slice (some ⟨ge, 0, none⟩) n c2) vl d) (hn : d.seen.length = n) (k : Nat) (t : ByteArray) :
    SectM.At (w.setCell ⟨ge, k, none⟩ (.string t)) base D vs (.slice (some ⟨ge, 0, none⟩) n c2) vl { d with seen := d.seen.set k t } ∧ w.grownBy (w.setCell ⟨ge, k, none⟩ (.string t)) (some ge) := by
  subst hn
  obtain ⟨ho, hg⟩ := h.seen.stored k (.string t)
  refine ⟨⟨h.blk.grown hg (fun e => h.blk.ne_own h.seen (by decide) e), h.lt, h.safe.kept hg (Or.inr (fun e => h.apart ge e rfl)), ?_, h.late.kept hg (Or.inr ?_), h.apart, h.left⟩, hg⟩
  · have e : (strVals d.seen).set k (.string t) = strVals (d.seen.set k t) := by unfold strVals; rw [List.map_set]
    rw [e] at ho
    show (w.setCell ⟨ge, k, none⟩ (.string t)).ownsRow base _ 1 _ (d.seen.set k t).length _
    rw [List.length_set]; exact ho
  · intro hb
    rcases h.late.2 with ⟨rfl, _⟩ | ⟨g, cap, cur, rfl, _, hg1, _⟩
    · simp [Value.ownBlock] at hb
    · simp [Value.ownBlock] at hb
      subst hb
      rcases h.seen.2 with ⟨h3, _⟩ | ⟨g', cap', cur', h3, _, hg2, _⟩
      · cases h3
      · simp only [Value.slice.injEq, Option.some.injEq, Addr.mk.injEq, and_true] at h3
        obtain ⟨rfl, _⟩ := h3
        rw [hg1] at hg2
        simp at hg2
theorem SectM.At.alloc {ve : Value} (h : SectM.At w base D vs ve vl d) (o : Obj) : SectM.At (w.alloc o) base D vs ve vl d :=
  h.below ((Below.refl _ _).alloc (Nat.le_refl _) o)
/-- The list of what is not safe has grown. -/
theorem SectM.At.grownLate {ve vl' : Value} (h : SectM.At w base D vs ve vl d) (x : Nat × ByteArray) (ho : w'.ownsRow base 61 2 vl' (d.late.length + 1) (lateVals d.late ++ [.int .i64 (x.1 : Int), .string x.2])) (hg : w.grownBy w' vl.ownBlock) :
    SectM.At (w'.setCell ⟨D, 2, none⟩ vl') base D vs ve vl' { d with late := d.late ++ [x] } ∧ Blk w' D 59 [vs, ve, vl, .int .i64 d.left] := by
  have hD : Blk w' D 59 [vs, ve, vl, .int .i64 d.left] := h.blk.grown hg (fun e => h.blk.ne_own h.late (by decide) e)
  have hne : ∀ {v : Value} {m : Nat} {xs : List Value}, w.ownsRow base 9 1 v m xs → v.ownBlock = none ∨ v.ownBlock ≠ vl.ownBlock := by
    intro v m xs hv
    cases hb : v.ownBlock with
    | none => exact Or.inl rfl
    | some g =>
      right
      intro e
      rcases h.late.2 with ⟨rfl, _⟩ | ⟨g1, cap, cur, rfl, _, hg1, _⟩
      · cases e
      · simp only [Value.ownBlock, Option.some.injEq] at e
        subst e
        rcases hv.2 with ⟨h3, _⟩ | ⟨g', cap', cur', h3, _, hg2, _⟩
        · rw [h3] at hb; cases hb
        · rw [h3] at hb
          simp only [Value.ownBlock, Option.some.injEq] at hb
          subst hb
          rw [hg1] at hg2
          simp at hg2
  have k : ∀ {e size m : Nat} {v : Value} {xs : List Value}, w'.ownsRow base e size v m xs → e ≠ 59 → (w'.setCell ⟨D, 2, none⟩ vl').ownsRow base e size v m xs := fun ho he => ownsRow_setCell_other ho (hD.ne_own ho (Ne.symm he)) _
  refine ⟨⟨hD.set 2 _, h.lt, k (h.safe.kept hg (hne h.safe)) (by decide), k (h.seen.kept hg (hne h.seen)) (by decide), ?_, h.apart, h.left⟩, hD⟩
  have := k ho (by decide)
  show (w'.setCell ⟨D, 2, none⟩ vl').ownsRow base _ 2 vl' (d.late ++ [x]).length (lateVals (d.late ++ [x]))
  rw [List.length_append, lateVals_snoc]
  exact this
end
theorem Tryd.infoWrite : (Tryd.prog.info? 61).map (fun i => (i.zero, i.size, i.bytes)) = some (some (.agg #[.int .i64 0, .string ByteArray.empty]), 2, 24) := by kernel_rfl

set_option maxRecDepth 20000 in
set_option maxHeartbeats 8000000 in
theorem sectWrite_any (w : World) (base D : Nat) (vs ve vl : Value) (d : DiskM) (h : SectM.At w base D vs ve vl d) (hbase : base ≤ w.heap.size) (hn : d.seen.length = d.safe.length) (h1 : 1 ≤ d.safe.length) (h2 : d.safe.length ≤ 256) (hl : d.late.length ≤ 5000000000000) (at_ : Int) (t : ByteArray) (ht : t.size ≤ 9223372036854775807) :
    Calls Tryd.prog 17 #[.pointer (some ⟨D, 0, none⟩), .int .i64 at_, .string t] w fun e w' => e = .returned (.int .i64 (SectM.wrote d at_ t)) ∧ SectM.Moved w base D vs ve vl (SectM.write d at_ t) w' := by
  obtain ⟨i0, hi0, hz0, hz1, hz2⟩ := info_parts Tryd.infoWrite
  obtain ⟨gs, cs, rfl, hcs⟩ := h.rowS h1
  obtain ⟨ge, ce, rfl, hce⟩ := h.rowE (by omega)
  have HCall := box (sectBurn_any w base D _ _ vl d h)
  have HW := box (show SectM.wrote d at_ t = if at_ < 0 ∨ (d.safe.length : Int) ≤ at_ then 1 else if 64 < t.size then 2 else if d.left = 0 then 13 else 0 from rfl)
  have HWr := box (show SectM.write d at_ t = if SectM.wrote d at_ t = 0 then { SectM.burnt d with seen := d.seen.set at_.toNat (SectM.pad t), late := d.late ++ [(at_.toNat, SectM.pad t)] } else d from rfl)
  have HB := box (show SectM.burn d = if SectM.flushed d = 0 then SectM.burnt d else d from rfl)
  have HFd := box (show SectM.flushed d = if d.left = 0 then 13 else 0 from rfl)
  obtain ⟨N, HN⟩ : ∃ N, Box (d.safe.length = N) := ⟨_, ⟨rfl⟩⟩
  have HN2 : Box (d.seen.length = N) := ⟨hn.trans HN.out⟩
  have HBl := box (SectM.burn_len d)
  have HMv := box (SectM.Mv.refl h)
  have y0 := h.blk.cell (i := 0) rfl
  rw [HN2.out] at hce HCall HMv ⊢
  rw [HN.out] at hcs h1 h2 HCall HMv y0 HW ⊢
  have Hend1 : Box (∀ c : Int, SectM.wrote d at_ t = c → c ≠ 0 → SectM.write d at_ t = d) := ⟨fun c h1 h2 => by rw [HWr.out, if_neg (by omega)]⟩
  clear h hn
  go_enter Tryd.func17, Tryd.ntmps17
  cases b1 : decide (at_ < 0) with
  | true =>
    have HE : Box (SectM.wrote d at_ t = 1) := ⟨by rw [HW.out, if_pos (Or.inl (by simpa using b1))]⟩
    go_wp2_with fail
    go_ret
    exact ⟨by rw [HE.out]; rfl, vl, by rw [Hend1.out 1 HE.out (by decide)]; exact HMv.out⟩
  | false =>
  obtain ⟨k, rfl⟩ : ∃ k : Nat, at_ = (k : Int) := ⟨at_.toNat, by have := of_decide_eq_false b1; omega⟩
  cases b2 : decide (N ≤ k) with
  | true =>
    have HE : Box (SectM.wrote d k t = 1) := ⟨by rw [HW.out, if_pos (Or.inr (by have := of_decide_eq_true b2; omega))]⟩
    go_wp2_with fail
    go_ret
    exact ⟨by rw [HE.out]; rfl, vl, by rw [Hend1.out 1 HE.out (by decide)]; exact HMv.out⟩
  | false =>
  have hk : k < N := by have := of_decide_eq_false b2; omega
  cases b3 : decide (64 < t.size) with
  | true =>
    have HE : Box (SectM.wrote d k t = 2) := ⟨by rw [HW.out, if_neg (by omega), if_pos (by simpa using b3)]⟩
    have b3' : decide (64 < (t.size : Int)) = true := by have := of_decide_eq_true b3; simp; omega
    go_wp2_with fail
    go_ret
    exact ⟨by rw [HE.out]; rfl, vl, by rw [Hend1.out 2 HE.out (by decide)]; exact HMv.out⟩
  | false =>
  have ht2 : t.size ≤ 64 := by have := of_decide_eq_false b3; omega
  have HWf : Box (SectM.wrote d k t = SectM.flushed d) := ⟨by rw [HW.out, if_neg (by omega), if_neg (by omega), HFd.out]⟩
  have b3' : decide (64 < (t.size : Int)) = false := by simp; omega
  obtain ⟨c, HC⟩ : ∃ c, Box (SectM.flushed d = c) := ⟨_, ⟨rfl⟩⟩
  rw [HC.out] at HCall HB HWf
  go_wp2_with fail
  refine HCall.out.mono ?_
  rintro e w1 ⟨rfl, hA, hk1⟩
  have HA := box hA; have HK := box hk1
  clear hA hk1 HCall y0
  cases b4 : (c == 0) with
  | false =>
    have b5 : (c != 0) = true := by simpa using b4
    have b6 : ¬ c = 0 := by simpa using b4
    have HE : Box (SectM.write d k t = SectM.burn d) := ⟨by rw [HWr.out, HWf.out, HB.out, if_neg b6, if_neg b6]⟩
    clear b6
    go_wp2_with fail
    go_ret
    exact ⟨by rw [HWf.out]; rfl, vl, by rw [HE.out]; exact ⟨HA.out, HK.out, fun _ h => Or.inr h⟩⟩
  | true =>
  obtain rfl : c = 0 := by simpa using b4
  have HE : Box (SectM.write d k t = { SectM.burn d with seen := (SectM.burn d).seen.set k (SectM.pad t), late := (SectM.burn d).late ++ [(k, SectM.pad t)] }) := ⟨by rw [HWr.out, HWf.out, if_pos rfl, HBl.out.2.1, HBl.out.2.2, HB.out, if_pos rfl, Int.toNat_natCast]⟩
  have s1 : IntKind.i64.wrap (64 - (t.size : Int)) = ((64 - t.size : Nat) : Int) := by
    rw [show ((64 - t.size : Nat) : Int) = 64 - (t.size : Int) by omega]; exact IntWalk.i64_in _ (by omega)
  have s2 : (64 : Int) - (t.size : Int) = ((64 - t.size : Nat) : Int) := by omega
  have S1 := box s1; have S2 := box s2
  clear s1 s2
  have HSeen : Box ((SectM.burn d).seen.length = N) := ⟨by rw [HBl.out.2.1]; exact HN2.out⟩
  have HLate : Box ((SectM.burn d).late.length = d.late.length) := ⟨by rw [HBl.out.2.2]⟩
  have hsz1 := HK.out.size
  have HBs : Box (base ≤ w1.heap.size) := ⟨Nat.le_trans hbase hsz1⟩
  go_wp2_with fail
  rw [S2.out]
  refine (repeat_zeros (64 - t.size) _ (by omega)).mono ?_
  rintro e w2 ⟨rfl, hb2⟩
  have HPd := box (pad_eq t)
  have HPs := box (SectM.pad_size ht2)
  have HA2 := box (HA.out.below hb2)
  have HK2 := box (HK.out.after hb2)
  have HBs2 : Box (base ≤ w2.heap.size) := ⟨Nat.le_trans HBs.out hb2.size⟩
  have y1 := HA2.out.blk.cell (i := 1) rfl
  have HkS : Box (k < (SectM.burn d).seen.length) := ⟨by rw [HSeen.out]; exact hk⟩
  obtain ⟨old, yk⟩ : ∃ old, w2.cell? ⟨ge, k, none⟩ = some (.string old) := by
    have := HA2.out.seen.cells (g := ge) rfl k _ (strVals_get HkS.out)
    rw [Addr.add_lit, Nat.zero_add] at this
    exact ⟨_, this⟩
  have HSq := HA2.out.seen
  rw [HSeen.out] at HSq
  have zk : w2.frozen? ⟨ge, k, none⟩ = false := HSq.frozenAt k
  clear HSq
  clear hb2
  have hzs : (SectM.zeros (64 - t.size)).size = 64 - t.size := by show (List.replicate (64 - t.size) (0 : UInt8)).toArray.size = _; simp
  have hov : ¬ 9223372036854775807 < t.size + (SectM.zeros (64 - t.size)).size := by rw [hzs]; omega
  clear hzs
  go_upto_region 9 with (fail)
  rw [HPd.out]
  clear hov
  generalize SectM.pad t = p at *
  go_upto_region 10 with (fail)
  obtain ⟨hA3, hg3⟩ := HA2.out.setSeen HSeen.out k p
  have HA3 := box hA3
  have HK3 := box (HK2.out.grown hg3 (fun b hb => Or.inl (Or.inr (Or.inr (Or.inl hb)))))
  have HBs3 : Box (base ≤ (w2.setCell ⟨ge, k, none⟩ (.string p)).heap.size) := ⟨Nat.le_trans HBs2.out hg3.size⟩
  clear hA3 hg3 y1 yk zk
  generalize w2.setCell ⟨ge, k, none⟩ (.string p) = w3 at *
  have y2 := HA3.out.blk.cell (i := 2) rfl
  have hown := (HA3.out.late.alloc (.cells #[.int .i64 (k : Int), .string p] 61))
  rw [HLate.out] at hown
  have hb3 := HBs3.out
  go_wp2_with (at_builtin; go_must (refine wpList_append_own_at _ rfl _ _ 57 rfl base 61 i0 _ 2 24 Tryd.underlying57 hi0 hz0 hz1 hz2 rfl (by decide) _ _ _ rfl hown ⟨w3.heap.size, 0, none⟩ 1 1 [.int .i64 (k : Int), .string p] rfl rfl (cells_new w3 [.int .i64 (k : Int), .string p] 61) (by simp [Value.oneCell']) (by unfold maxLen; omega) (by omega) (by simp; omega) ?_))
  intro vl' w4 hown4 hgrow4 _ hat4
  obtain ⟨va, vc, rfl⟩ : ∃ a c, vl' = .slice a (d.late.length + 1) c := by
    rcases hown4.2 with ⟨_, h3⟩ | ⟨g, cap, cur, h3, _⟩
    · omega
    · exact ⟨_, _, h3⟩
  have hgr : (w3.alloc (.cells #[.int .i64 (k : Int), .string p] 61)).grownBy w4 vl.ownBlock := hgrow4
  have hown5 : w4.ownsRow base 61 2 (.slice va (d.late.length + 1) vc) ((SectM.burn d).late.length + 1) (lateVals (SectM.burn d).late ++ [.int .i64 (k : Int), .string p]) := by rw [HLate.out]; exact hown4
  obtain ⟨hA5, hD4⟩ := (HA3.out.alloc (.cells #[.int .i64 (k : Int), .string p] 61)).grownLate (k, p) hown5 hgr
  have HA5 := box hA5
  have HK4 := box ((HK3.out.alloc (.cells #[.int .i64 (k : Int), .string p] 61)).grown hgr (fun b hb => Or.inl (Or.inr (Or.inr (Or.inr hb)))))
  have hw3 : w.heap.size ≤ w3.heap.size := HK3.out.size
  have HVl : Box (∀ b, (Value.slice va (d.late.length + 1) vc).ownBlock = some b → w.heap.size ≤ b ∨ vl.ownBlock = some b) := ⟨fun b hb => by
    rcases hat4 with h4 | h4
    · exact Or.inr (h4 ▸ hb)
    · rw [hb] at h4
      simp at h4
      exact Or.inl (by omega)⟩
  have x2 := hD4.cell (i := 2) rfl
  have z2 := hD4.frozen 2
  clear hown4 hown5 hgrow4 hgr hA5 hD4 hat4
  go_wp2_with fail
  go_ret
  exact ⟨by rw [HWf.out]; rfl, _, by rw [HE.out]; exact ⟨HA5.out, HK4.out.set (Or.inl (Or.inl rfl)) _ _, HVl.out⟩⟩
end Go.Proofs.YtpeaefeoogcepaaDoor
