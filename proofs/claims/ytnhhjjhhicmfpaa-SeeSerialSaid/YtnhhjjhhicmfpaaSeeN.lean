/- see.names: what it answers. -/
import Derived.Test.YtnhhjjhhicmfpaaSeeW
import Derived.Test.YtnhhjjhhicmfpaaPairW
import Derived.Deep.AppendLies
import Derived.Deep.RegionLaw
namespace Go.Proofs.Ytnhhjjhhicmfpaa
open Go.RowKit Go.Lib

theorem Try.infoName : (Try.prog.info? 93).map (fun i => (i.zero, i.size, i.bytes)) = some (some (.agg #[.int .i64 0, .int .i64 0]), 2, 16) := by kernel_rfl
/-- In the loop. -/
structure SeeM.NW (w : World) (l : List OpM) (k : Nat) (v : Value) (W : World) : Prop where
  below : Below w.heap.size w W
  num : Blk W w.heap.size 143 (Tab 12 fun s => Value.int .i64 (RunM.cnt l k s : Int))
  own : W.ownsRow w.heap.size 93 2 v (SeeM.namesTo l k).length (egVals (SeeM.namesTo l k))
section
variable {w wr W : World} {l : List OpM} {k : Nat} {v : Value}
theorem SeeM.NW.after (h : SeeM.NW w l k v wr) (hb : Below wr.heap.size wr W) : SeeM.NW w l k v W := ⟨below_tr h.below hb, h.num.after hb, ownsRow_below h.own hb⟩
theorem SeeM.NW.alloc (h : SeeM.NW w l k v wr) (o : Obj) : SeeM.NW w l k v (wr.alloc o) := h.after ((Below.refl _ _).alloc (Nat.le_refl _) o)
end

set_option maxRecDepth 20000 in
set_option maxHeartbeats 4000000 in
theorem names_any (l : List OpM) (ao : Option Addr) (cap : Nat) (w : World) (h : OpsAt w ao l) (hl : l.length ≤ 200) (ht : ∀ o ∈ l, 0 ≤ o.tx ∧ o.tx < 12) :
    Calls Try.prog 76 #[.slice ao l.length cap] w fun e w' => (∃ v, e = .returned v ∧ w'.ownsRow w.heap.size 93 2 v (SeeM.namesTo l l.length).length (egVals (SeeM.namesTo l l.length))) ∧ Below w.heap.size w w' := by
  obtain ⟨i0, hi0, hz0, hz1, hz2⟩ := info_parts Try.infoName
  have H := box h; have HT := box ht
  clear h ht
  obtain ⟨N, HN⟩ : ∃ N, Box (l.length = N) := ⟨_, ⟨rfl⟩⟩
  rw [HN.out] at hl ⊢
  go_enter Try.func76, Try.ntmps76
  go_upto_region 3 with (fail)
  refine name_world (fun W => SeeM.NW w l 0 (.slice none 0 0) W) ⟨(Below.refl _ _).alloc (Nat.le_refl _) _, Blk.new w (Tab 12 fun _ => Value.int .i64 0) _, World.ownsRow_nil _ _ _ _⟩ ?_
  intro W hW
  have HW := box hW
  clear hW
  go_wp2_with fail
  go_loopw [4, 9] (fun t4 t9 wr => ∃ (k : Nat) (v : Value), k ≤ N ∧ v = t4 ∧ t9 = .int .i64 (k : Int) ∧ Box (SeeM.NW w l k v wr)) (fun _ t9 _ => N - (RowKit.intOf t9).toNat)
  case atStart => exact ⟨0, _, Nat.zero_le _, rfl, rfl, HW⟩
  case round =>
    obtain ⟨k, v, hk, rfl, rfl, HR⟩ := hrel
    clear HW
    by_cases hlt : k < N
    · have hkl : k < l.length := by rw [HN.out]; exact hlt
      obtain ⟨b, off, rfl, _, hrow⟩ := ((H.out.below HR.out.below (Nat.le_refl _)).resolve_left (by intro h; rw [h] at hkl; simp at hkl))
      obtain ⟨hc0, hc1, hc2⟩ := hrow k hkl
      obtain ⟨t, htt⟩ : ∃ t : Nat, l[k].tx = (t : Int) := ⟨l[k].tx.toNat, by have := (HT.out _ (List.getElem_mem hkl)).1; omega⟩
      have ht12 : t < 12 := by have := (HT.out _ (List.getElem_mem hkl)).2; omega
      have ht12i : (t : Int) < 12 := by omega
      have HC := box (RunM.cnt_succ hkl htt)
      have HO := box (RunM.cnt_ord hkl htt)
      have HT2 : Box (SeeM.namesTo l (k + 1) = SeeM.namesTo l k ++ [⟨(t : Int), (RunM.cnt l k t : Int)⟩]) := ⟨by
        rw [SeeM.namesTo_succ, HO.out, getElem!_pos l k hkl, htt]⟩
      have hcl := RunM.cnt_le l k t
      rw [HN.out] at hcl
      rw [htt] at hc0
      generalize l[k].kind = y1 at *
      generalize l[k].item = y2 at *
      clear hrow htt HO
      go_upto_region 6 with (fail)
      refine name_world (fun W => SeeM.NW w l k v W ∧ Blk W wr.heap.size 25 [.int .i64 (t : Int), .int .i64 y1, .int .i64 y2]) ⟨HR.out.alloc _, Blk.new _ _ _⟩ ?_
      rintro W2 ⟨hw, hbw⟩
      have HW2 := box hw; have HK2 := box hbw
      have d0 := hbw.cell (i := 0) rfl
      have d1 := hbw.cell (i := 1) rfl
      have d2 := hbw.cell (i := 2) rfl
      have n0 := hw.num.tabCell ht12
      have ownr := hw.own
      have hnl := SeeM.namesTo_len l k
      have heb := hw.below.size
      clear hw hbw hc0 hc1 hc2 HR
      generalize wr.heap.size = A at *
      have a1 : v.ownBlock ≠ some A := HK2.out.ne_own ownr (by decide)
      have a2 : v.ownBlock ≠ some w.heap.size := HW2.out.num.ne_own ownr (by decide)
      generalize hcc : RunM.cnt l k t = cc at *
      go_cut [4] (fun s4 wx => ∃ v', v' = s4 ∧ wx.ownsRow w.heap.size 93 2 v' (SeeM.namesTo l (k + 1)).length (egVals (SeeM.namesTo l (k + 1))) ∧ Blk wx w.heap.size 143 (Tab 12 fun s => Value.int .i64 (RunM.cnt l k s : Int)) ∧ Blk wx A 25 [.int .i64 (t : Int), .int .i64 y1, .int .i64 y2] ∧ Below w.heap.size w wx)
      case first =>
        go_region_law ((refine step_append_lies _ (by rfl) _ _ _ (by rfl) w.heap.size 93 i0 _ 2 16 Try.underlying146 hi0 hz0 hz1 hz2 rfl (by omega) v _ _ (by rfl) ((ownr.alloc _).drew) ⟨W2.heap.size, 0, none⟩ 1 1 [.int .i64 (t : Int), .int .i64 (cc : Int)] (by rfl) (by rfl) (World.news_of_block (cs := #[.int .i64 (t : Int), .int .i64 (cc : Int)]) (t := 93) (fr := (0, 0)) (heap_alloc_new W2 _)) (by simp [Value.oneCell']) (by omega) (by unfold maxLen; omega) (by omega) (by simp; omega) (W2.heap.size + 1) (by simp) ?_; intro gg gcap w2 hown2 hgrow hat hlt2))
        all_goals (go_wp2_with fail)
        all_goals go_meet
        all_goals
          refine ⟨_, rfl, ?_, ((HW2.out.num.alloc _).drew).grown hgrow a2, ((HK2.out.alloc _).drew).grown hgrow a1, ((HW2.out.below.alloc heb _).drew).grown hgrow (by simp; omega) (fun b hb => (ownr.lt b hb).1)⟩
          have h2 := hown2
          rw [hnl] at h2
          rw [HT2.out, egVals_append, List.length_append, hnl]
          exact h2
      case rest =>
        obtain ⟨v', rfl, ho, hn, hA, hb⟩ := hcut
        have HO := box ho; have HNn := box hn; have HA := box hA; have HB := box hb
        have f0 := hA.cell (i := 0) rfl
        have m0 := hn.tabCell ht12
        have m1 := hn.frozen t
        rw [hcc] at m0
        clear ho hn hA hb d0 d1 d2 n0 ownr a1 a2
        go_wp2_with fail
        go_roundw
        case rel =>
          refine ⟨k + 1, _, hlt, rfl, by go_num, ⟨HB.out.setCell (Nat.le_refl _) _, ?_, ownsRow_setCell_other HO.out (HNn.out.ne_own HO.out (by decide)) _⟩⟩
          have := HNn.out.tabSet t (.int .i64 ((cc : Int) + 1))
          rw [show (upd (fun s => Value.int .i64 (RunM.cnt l k s : Int)) t (.int .i64 ((cc : Int) + 1))) = fun s => Value.int .i64 (RunM.cnt l (k + 1) s : Int) from by
            funext s
            have e3 : (RunM.cnt l (k + 1) s : Int) = upd (fun s => (RunM.cnt l k s : Int)) t ((cc : Int) + 1) s := congrFun HC.out s
            rw [e3]
            unfold upd; split <;> rfl] at this
          exact this
        case measure => simp [RowKit.intOf]; omega
    · obtain rfl : k = N := by omega
      have HO : Box (wr.ownsRow w.heap.size 93 2 v (SeeM.namesTo l k).length (egVals (SeeM.namesTo l k))) := ⟨HR.out.own⟩
      have HB := box HR.out.below
      clear HR
      go_wp2_with fail
      go_ret
      exact ⟨⟨_, rfl, HO.out⟩, HB.out⟩
end Go.Proofs.Ytnhhjjhhicmfpaa
