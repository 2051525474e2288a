/- run.ended: what it computes. -/
import Derived.Test.YtnhhjjhhicmfpaaOpsRow
import Derived.Test.YtnhhjjhhicmfpaaSetAll
import Derived.Laws.Rows
namespace Go.Proofs.Ytnhhjjhhicmfpaa
open Go.RowKit Go.Lib

/-- Has transaction t ended so? -/
def RunM.endB (l : List OpM) (kind : Int) (t : Nat) : Bool := l.any fun o => (o.kind == kind) && (o.tx == (t : Int))
def endVals (l : List OpM) (kind : Int) : List Value := Tab 12 fun t => .bool (RunM.endB l kind t)
theorem RunM.endB_snoc (l : List OpM) (o : OpM) (kind : Int) (t : Nat) : RunM.endB (l ++ [o]) kind t = (RunM.endB l kind t || ((o.kind == kind) && (o.tx == (t : Int)))) := by
  simp [RunM.endB, List.any_append]

set_option maxRecDepth 100000 in
set_option maxHeartbeats 4000000 in
theorem ended_any (l : List OpM) (kind : Int) (ao : Option Addr) (cap : Nat) (w : World) (h : OpsAt w ao l) (hn : l.length ≤ 5000000000) (hv : ∀ o ∈ l, 0 ≤ o.tx ∧ o.tx < 12) :
    Calls Try.prog 35 #[.slice ao l.length cap, .int .i64 kind] w fun e w' => e = .returned (.agg (endVals l kind).toArray) ∧ Below w.heap.size w w' := by
  have H := box h; have Hv := box hv
  clear h hv
  go_enter Try.func35, Try.ntmps35
  go_wp2_with fail
  go_loopw [10] (fun t10 w2 => ∃ j : Nat, j ≤ l.length ∧ t10 = .int .i64 (j : Int) ∧ Blk w2 w.heap.size 77 (Tab 12 fun _ => .bool false) ∧ Blk w2 (w.heap.size + 1) 77 (endVals (l.take j) kind) ∧ Below w.heap.size w w2) (fun t10 _ => l.length - (intOf t10).toNat)
  case atStart =>
    refine ⟨0, Nat.zero_le _, rfl, (Blk.new w (Tab 12 fun _ => .bool false) _).alloc _, ?_, ((Below.refl _ _).alloc (Nat.le_refl _) _).alloc (by simp) _⟩
    exact Blk.new' (by simp) (Tab 12 fun _ => .bool false) _
  case round =>
    obtain ⟨j, hj, rfl, hC0, hC1, hb2⟩ := hrel
    have HC0 := box hC0; have HC1 := box hC1; have Hb2 := box hb2
    have m0 := hC0.lt; have m1 := hC1.lt
    by_cases hjl : j < l.length
    · obtain ⟨b, off, rfl, hbb, hrow⟩ := ((H.out.below hb2 (Nat.le_refl _)).resolve_left (by intro h; rw [h] at hjl; simp at hjl))
      obtain ⟨hc0, hc1, hc2⟩ := hrow j hjl
      obtain ⟨i1, i2⟩ := Hv.out l[j] (List.getElem_mem hjl)
      have HT : Box (∀ it, RunM.endB (l.take (j + 1)) kind it = (RunM.endB (l.take j) kind it || ((l[j].kind == kind) && (l[j].tx == (it : Int))))) := ⟨fun it => by
        rw [List.take_succ_eq_append_getElem hjl, RunM.endB_snoc]⟩
      generalize l[j] = o at *
      obtain ⟨a0, a1, a2⟩ := o
      simp only at hc0 hc1 hc2 i1 i2 HT
      clear hrow hC0 hC1 hb2
      obtain ⟨it, rfl⟩ := Int.eq_ofNat_of_zero_le i1
      have hit : it < 12 := by omega
      have hit2 : (it : Int) < 12 := by omega
      have cc : wr.cell? ⟨w.heap.size + 1, it, none⟩ = some (.bool (RunM.endB (l.take j) kind it)) := HC1.out.tabCell hit
      have cf := HC1.out.frozen it
      clear i1 i2
      cases ek : (a1 == kind) with
      | true =>
        have HEk := box ek
        go_wp2_with fail
        go_roundw
        case rel =>
          refine ⟨j + 1, hjl, by go_num, (HC0.out.other (by show _ ≠ _ + 1; omega) _).alloc _, ?_, (Hb2.out.setCell (by show _ ≤ _ + 1; omega) _).alloc (by rw [World.size_setCell]; exact Hb2.out.size) _⟩
          have := HC1.out.tabSet it (.bool true)
          have e : upd (fun i => Value.bool (RunM.endB (l.take j) kind i)) it (.bool true) = (fun i => Value.bool (RunM.endB (l.take (j + 1)) kind i)) := by
            funext i
            rw [HT.out, HEk.out]
            simp only [upd]
            by_cases e : i = it
            · subst e; simp
            · rw [if_neg e]
              have : ((it : Int) == (i : Int)) = false := by simp; omega
              rw [this]; simp
          rw [e] at this
          exact this.alloc _
        case measure => simp [intOf]; omega
      | false =>
        have HEk := box ek
        go_wp2_with fail
        go_roundw
        case rel =>
          refine ⟨j + 1, hjl, by go_num, HC0.out.alloc _, ?_, Hb2.out.alloc Hb2.out.size _⟩
          have := HC1.out.alloc (.cells #[.int .i64 (it : Int), .int .i64 a1, .int .i64 a2] 25)
          have e : endVals (l.take (j + 1)) kind = endVals (l.take j) kind := by
            unfold endVals
            exact Tab_congr (fun i _ => by rw [HT.out, HEk.out]; simp)
          rw [e]
          exact this
        case measure => simp [intOf]; omega
    · have HE : Box (l.take j = l) := ⟨List.take_of_length_le (by omega)⟩
      rw [HE.out] at HC1
      have hlen : (endVals l kind).length = 12 := Tab_len _ _
      have HS := box (HC0.out.setAll (vs := endVals l kind) (by rw [hlen, Tab_len]))
      have hth : wr.there w.heap.size 0 (endVals l kind).toArray.size := fun i hi => by
        rw [List.size_toArray, hlen] at hi
        rw [Nat.zero_add]
        exact ⟨by rw [HC0.out.tabCell hi]; rfl, HC0.out.frozen i⟩
      have Hth := box hth
      have Hsz : Box ((Try.prog.info? 77).map (·.size) = some (endVals l kind).toArray.size) := ⟨by rw [List.size_toArray, hlen]; kernel_rfl⟩
      have H1c : Box ((endVals l kind).toArray.all (·.oneCell') = true) := ⟨all_oneCell_toArray (by
        intro u hu
        unfold endVals Tab at hu
        obtain ⟨i, _, rfl⟩ := List.mem_map.1 hu
        rfl)⟩
      clear hC0 hC1 hb2 hth hlen
      generalize HL : endVals l kind = L at *
      have HL2 := box HL
      clear HL
      go_wp2_with (first | (refine wpList_load_row rfl 77 (.tmp 5) rfl (w.heap.size + 1) (by rfl) 77 _ (0, 0) _ HC1.out Try.underlying77 rfl Hsz.out ?_) | (refine wpList_store_mid rfl 77 (.tmp 4) (.tmp 22) rfl w.heap.size 0 L.toArray (by rfl) (by rfl) Hth.out Hsz.out H1c.out ?_))
      refine bodyPost_ret (v := .agg L.toArray) (?_) rfl ⟨by rw [HL2.out], ?_⟩
      · refine results_cell_row (by rfl) _ _ w.heap.size 77 L.toArray (0, 0) _ ?_ HS.out Try.underlying77 rfl Hsz.out
        rfl
      exact Below.setCells (Nat.le_refl _) _ 0 Hb2.out
end Go.Proofs.Ytnhhjjhhicmfpaa
