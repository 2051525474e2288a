/- see.Last of a run in which nobody aborts: what it answers. -/
import Derived.Test.YtnhhjjhhicmfpaaMem
import Derived.Laws.Rows
import Derived.Test.YtnhhjjhhicmfpaaSeeW
import Derived.Test.YtnhhjjhhicmfpaaSetAll
import Derived.Test.YtnhhjjhhicmfpaaRunCheck
import Derived.Test.YtnhhjjhhicmfpaaStampM
namespace Go.Proofs.Ytnhhjjhhicmfpaa
section
open Go.RowKit Go.Lib
section
variable {P : Program}
theorem results_row_tmp {fn : Func} {p u : Tmp} {ty : TypeId} (h : fn.results = #[.cell p ty, .tmp u]) (tmps : Array Value) (w : World) (g : Nat) (t : TypeId) (cs : Array Value) (fr : Nat × Nat) (d : TypeDesc)
    (hp : tmps.getD p undef = .pointer (some ⟨g, 0, none⟩)) (hg : w.heap[g]? = some (.cells cs t fr))
    (hu : P.underlying ty = some d) (hd : (match d with | .struct _ | .array _ _ => true | _ => false) = true) (hi : (P.info? ty).map (·.size) = some cs.size) (v : Value) (hv : tmps.getD u undef = v) :
    (results fn tmps).run P w = .ok (.tuple #[.agg cs, v]) w := by
  have hp' : tmps[p]?.getD undef = .pointer (some ⟨g, 0, none⟩) := by simpa using hp
  have hv' : tmps[u]?.getD undef = v := by simpa using hv
  simp [results, h, hp', hv', asAddr, run_loadVar_row w g t ty cs fr d hg hu hd hi]
theorem results_tmp_row {fn : Func} {p u : Tmp} {ty : TypeId} (h : fn.results = #[.tmp u, .cell p ty]) (tmps : Array Value) (w : World) (g : Nat) (t : TypeId) (cs : Array Value) (fr : Nat × Nat) (d : TypeDesc)
    (hp : tmps.getD p undef = .pointer (some ⟨g, 0, none⟩)) (hg : w.heap[g]? = some (.cells cs t fr))
    (hu : P.underlying ty = some d) (hd : (match d with | .struct _ | .array _ _ => true | _ => false) = true) (hi : (P.info? ty).map (·.size) = some cs.size) (v : Value) (hv : tmps.getD u undef = v) :
    (results fn tmps).run P w = .ok (.tuple #[v, .agg cs]) w := by
  have hp' : tmps[p]?.getD undef = .pointer (some ⟨g, 0, none⟩) := by simpa using hp
  have hv' : tmps[u]?.getD undef = v := by simpa using hv
  simp [results, h, hp', hv', asAddr, run_loadVar_row w g t ty cs fr d hg hu hd hi]
end
end
section
open Go.RowKit Go.Lib

def SeeM.lastVals (l : List OpM) : List Value := Tab 20 fun it => .int .i64 (SeeM.lastTo l it l.length)
/-- In the loops. -/
structure SeeM.LaW (w : World) (G : Nat) (f : Nat → Int) (wr : World) : Prop where
  hG : w.heap.size + 1 < G
  res : Blk wr w.heap.size 52 (Tab 20 fun _ => .int .i64 0)
  out : Blk wr (w.heap.size + 1) 52 (Tab 20 fun i => .int .i64 (f i))
  gone : Blk wr G 77 (Tab 12 fun _ => .bool false)
  below : Below w.heap.size w wr
section
variable {w wr W : World} {G : Nat} {f : Nat → Int}
theorem SeeM.LaW.after (h : SeeM.LaW w G f wr) (hb : Below wr.heap.size wr W) : SeeM.LaW w G f W := ⟨h.hG, h.res.after hb, h.out.after hb, h.gone.after hb, below_tr h.below hb⟩
theorem SeeM.LaW.alloc (h : SeeM.LaW w G f wr) (o : Obj) : SeeM.LaW w G f (wr.alloc o) := h.after ((Below.refl _ _).alloc (Nat.le_refl _) o)
theorem SeeM.LaW.set (h : SeeM.LaW w G f wr) (i : Nat) (v : Int) : SeeM.LaW w G (upd f i v) (wr.setCell ⟨w.heap.size + 1, i, none⟩ (.int .i64 v)) := by
  refine ⟨h.hG, h.res.other (by show _ ≠ _ + 1; omega) _, ?_, h.gone.other (by have := h.hG; show G ≠ _ + 1; omega) _, h.below.setCell (by show _ ≤ _ + 1; omega) _⟩
  have := h.out.tabSet i (.int .i64 v)
  rwa [show upd (fun i => Value.int .i64 (f i)) i (.int .i64 v) = fun j => Value.int .i64 (upd f i v j) from by
    funext j; unfold upd; split <;> rfl] at this
theorem SeeM.LaW.congr (h : SeeM.LaW w G f wr) {g : Nat → Int} (e : ∀ i, i < 20 → f i = g i) : SeeM.LaW w G g wr :=
  ⟨h.hG, h.res, by rw [← Tab_congr (f := fun i => Value.int .i64 (f i)) (fun i hi => by rw [e i hi])]; exact h.out, h.gone, h.below⟩
end

set_option maxRecDepth 100000 in
set_option maxHeartbeats 8000000 in
theorem last_any (l : List OpM) (ao : Option Addr) (cap : Nat) (w : World) (h : OpsAt w ao l) (hf : RunM.Fits l) (hc : RunM.check l = 0) (hna : ∀ o ∈ l, o.kind ≠ 4) :
    Calls Try.prog 26 #[.slice ao l.length cap] w fun e w' => e = .returned (.tuple #[.agg (SeeM.lastVals l).toArray, .int .i64 0]) ∧ Below w.heap.size w w' := by
  have H := box h; have Hf := box hf; have Hc := box hc; have Hna := box hna
  have hlen := (RunM.check_ok hc).1
  clear h hf hc hna
  obtain ⟨L, HL⟩ : ∃ L, Box (SeeM.lastVals l = L) := ⟨_, ⟨rfl⟩⟩
  rw [HL.out]
  go_enter Try.func26, Try.ntmps26
  go_wp2_with fail
  refine (runCheck_any l ao cap _ (H.out.below (((Below.refl _ _).alloc (Nat.le_refl _) _).alloc (by simp) _) (Nat.le_refl _)) Hf.out).mono ?_
  rintro e w1 ⟨rfl, hb1⟩
  rw [Hc.out]
  have hk0 := ((Blk.new w (Tab 20 fun _ => Value.int .i64 0) 52).alloc (.cells (Tab 20 fun _ => Value.int .i64 0).toArray 52)).after hb1
  have hk1 := (Blk.new' (w := w.alloc (.cells (Tab 20 fun _ => Value.int .i64 0).toArray 52)) (n := w.heap.size + 1) (by simp) (Tab 20 fun _ => Value.int .i64 0) 52).after hb1
  have HB1 := box (below_tr (((Below.refl w.heap.size w).alloc (Nat.le_refl _) _).alloc (by simp) _) hb1)
  have HK0 := box hk0; have HK1 := box hk1
  have hlt1 := hk1.lt
  clear hb1 hk0 hk1
  go_upto_region 6 with (fail)
  refine name_world (fun W => SeeM.LaW w w1.heap.size (fun _ => 0) W) ⟨hlt1, HK0.out.alloc _, HK1.out.alloc _, Blk.new w1 (Tab 12 fun _ => .bool false) _, HB1.out.alloc HB1.out.size _⟩ ?_
  intro W hW
  have HW := box hW
  clear hW HB1 HK0 HK1 hlt1
  generalize w1.heap.size = G at *
  obtain ⟨n, HN⟩ : ∃ n, Box (l.length = n) := ⟨_, ⟨rfl⟩⟩
  rw [HN.out] at hlen ⊢
  obtain ⟨B, HB⟩ : ∃ B, Box (w.heap.size = B) := ⟨_, ⟨rfl⟩⟩
  have HRow : Box (∀ wx, Below w.heap.size w wx → ∀ j (h : j < l.length), ∃ b off, ao = some ⟨b, off, none⟩ ∧ b < wx.heap.size ∧ wx.cell? ⟨b, off + j * 3, none⟩ = some (.int .i64 l[j].tx) ∧ wx.cell? ⟨b, off + j * 3 + 1, none⟩ = some (.int .i64 l[j].kind) ∧ wx.cell? ⟨b, off + j * 3 + 2, none⟩ = some (.int .i64 l[j].item)) := ⟨fun wx hb j hj => by
    obtain ⟨b', off', e, hlt, hrow⟩ := ((H.out.below hb (Nat.le_refl _)).resolve_left (by intro h; rw [h] at hj; simp at hj))
    exact ⟨b', off', e, hlt, hrow j hj⟩⟩
  have hbs := HW.out.below.size
  go_wp2_with fail
  go_loopw [20] (fun t20 wr => ∃ k : Nat, k ≤ n ∧ t20 = .int .i64 (k : Int) ∧ Box (SeeM.LaW w G (fun _ => 0) wr)) (fun t20 _ => n - (RowKit.intOf t20).toNat)
  case atStart => exact ⟨0, Nat.zero_le _, rfl, HW⟩
  case round =>
    obtain ⟨k, hk, rfl, HR⟩ := hrel
    clear HW
    by_cases hlt : k < n
    · have hkl : k < l.length := by rw [HN.out]; exact hlt
      obtain ⟨b, off, rfl, hbl, hc0, hc1, hc2⟩ := HRow.out wr HR.out.below k hkl
      have hn4 := Hna.out l[k] (List.getElem_mem hkl)
      generalize l[k] = x at *
      obtain ⟨x0, x1, x2⟩ := x
      simp only at hc0 hc1 hc2 hn4
      have q4 : (x1 == 4) = false := by simpa using hn4
      clear hn4
      go_wp2_with fail
      go_roundw
      case rel => exact ⟨k + 1, hlt, by go_num, ⟨HR.out.alloc _⟩⟩
      case measure => simp [RowKit.intOf]; omega
    · go_wp2_with fail
      go_loopw [31] (fun t31 wr => ∃ k : Nat, k ≤ 20 ∧ t31 = .int .i64 (k : Int) ∧ Box (SeeM.LaW w G (fun i => if i < k then -1 else 0) wr)) (fun t31 _ => 20 - (RowKit.intOf t31).toNat)
      case atStart => exact ⟨0, by omega, rfl, ⟨HR.out.congr (fun i _ => by simp)⟩⟩
      case round =>
        obtain ⟨j, hj, rfl, HR2⟩ := hrel
        clear HR
        by_cases hjt : j < 20
        · have hji : (j : Int) < 20 := by omega
          have o0 := HR2.out.out.tabCell hjt
          have o1 := HR2.out.out.frozen j
          have HNx : Box (SeeM.LaW w G (fun i => if i < j + 1 then -1 else 0) (wr.setCell ⟨w.heap.size + 1, j, none⟩ (.int .i64 (-1)))) := ⟨(HR2.out.set j (-1)).congr (fun i _ => by
            unfold upd
            by_cases e : i = j
            · subst e; simp
            · rw [if_neg e]
              show (if i < j then (-1 : Int) else 0) = if i < j + 1 then -1 else 0
              by_cases h : i < j
              · rw [if_pos h, if_pos (by omega)]
              · rw [if_neg h, if_neg (by omega)])⟩
          go_wp2_with fail
          go_roundw
          case rel => exact ⟨j + 1, hjt, by go_num, HNx⟩
          case measure => simp [RowKit.intOf]; omega
        · obtain rfl : j = 20 := by omega
          have HS : Box (SeeM.LaW w G (fun it => SeeM.lastTo l it 0) wr) := ⟨HR2.out.congr (fun i hi => by rw [SeeM.lastTo_zero, if_pos hi])⟩
          clear HR2
          go_wp2_with fail
          go_loopw [39] (fun t39 wr => ∃ k : Nat, k ≤ n ∧ t39 = .int .i64 (k : Int) ∧ Box (SeeM.LaW w G (fun it => SeeM.lastTo l it k) wr)) (fun t39 _ => n - (RowKit.intOf t39).toNat)
          case atStart => exact ⟨0, Nat.zero_le _, rfl, HS⟩
          case round =>
            obtain ⟨k3, hk3, rfl, HR3⟩ := hrel
            clear HS
            by_cases hlt3 : k3 < n
            · have hkl : k3 < l.length := by rw [HN.out]; exact hlt3
              obtain ⟨b, off, rfl, hbl, hc0, hc1, hc2⟩ := HRow.out wr HR3.out.below k3 hkl
              obtain ⟨x, hx⟩ : ∃ x, l[k3] = x := ⟨_, rfl⟩
              have Hx : Box (l[k3]! = x) := ⟨by rw [getElem!_pos l k3 hkl]; exact hx⟩
              have hbz := RunM.bad_zero ((RunM.check_ok Hc.out).2.2 x (by rw [← hx]; exact List.getElem_mem hkl))
              rw [hx] at hc0 hc1 hc2
              obtain ⟨x0, x1, x2⟩ := x
              simp only at hc0 hc1 hc2 hbz
              obtain ⟨b1, b2, b3, b4, b5, b6, b7⟩ := hbz
              obtain ⟨it, rfl⟩ := Int.eq_ofNat_of_zero_le b3
              obtain ⟨t, rfl⟩ := Int.eq_ofNat_of_zero_le b1
              have hit : it < 20 := by omega
              have hiti : (it : Int) < 20 := by omega
              have ht : t < 12 := by omega
              have hti : (t : Int) < 12 := by omega
              have HStep : Box (∀ i, SeeM.lastTo l i (k3 + 1) = if SeeM.hitW ⟨(t : Int), x1, (it : Int)⟩ i = true then (k3 : Int) else SeeM.lastTo l i k3) := ⟨fun i => by rw [SeeM.lastTo_succ, Hx.out]⟩
              clear hx b1 b2 b3 b4 b5 b6 b7
              go_upto_region 20 with (fail)
              refine name_world (fun W => SeeM.LaW w G (fun it => SeeM.lastTo l it k3) W ∧ Blk W wr.heap.size 25 [.int .i64 (t : Int), .int .i64 x1, .int .i64 (it : Int)]) ⟨HR3.out.alloc _, Blk.new _ _ _⟩ ?_
              rintro W5 ⟨hw5, hk5⟩
              have HW5 := box hw5
              have c0 := hk5.cell (i := 0) rfl
              have c1 := hk5.cell (i := 1) rfl
              have c2 := hk5.cell (i := 2) rfl
              have g0 : W5.cell? ⟨G, t, none⟩ = some (.bool false) := hw5.gone.tabCell ht
              have o0 := hw5.out.tabCell hit
              have o1 := hw5.out.frozen it
              clear hw5 hk5 hc0 hc1 hc2 HR3
              generalize wr.heap.size = A at *
              cases e2 : (x1 == 2) with
              | false =>
                have HNx : Box (SeeM.LaW w G (fun i => SeeM.lastTo l i (k3 + 1)) W5) := ⟨HW5.out.congr (fun i _ => by
                  rw [HStep.out]
                  unfold SeeM.hitW
                  rw [e2]; simp)⟩
                go_wp2_with fail
                go_roundw
                case rel => exact ⟨k3 + 1, hlt3, by go_num, HNx⟩
                case measure => simp [RowKit.intOf]; omega
              | true =>
                have HNx : Box (SeeM.LaW w G (fun i => SeeM.lastTo l i (k3 + 1)) (W5.setCell ⟨w.heap.size + 1, it, none⟩ (.int .i64 (k3 : Int)))) := ⟨(HW5.out.set it (k3 : Int)).congr (fun i _ => by
                  rw [HStep.out]
                  unfold SeeM.hitW upd
                  rw [e2]
                  by_cases e : i = it
                  · subst e; simp
                  · have : ((it : Int) == (i : Int)) = false := by simp; omega
                    rw [if_neg e, this]; simp)⟩
                go_wp2_with fail
                go_roundw
                case rel => exact ⟨k3 + 1, hlt3, by go_num, HNx⟩
                case measure => simp [RowKit.intOf]; omega
            · obtain rfl : k3 = n := by omega
              have hLV : SeeM.lastVals l = Tab 20 (fun it => Value.int .i64 (SeeM.lastTo l it k3)) := by unfold SeeM.lastVals; rw [HN.out]
              have hO : Blk wr (w.heap.size + 1) 52 (SeeM.lastVals l) := by rw [hLV]; exact HR3.out.out
              have hlen20 : (SeeM.lastVals l).length = 20 := Tab_len _ _
              have HO := box hO
              have HSt := box (HR3.out.res.setAll (vs := SeeM.lastVals l) (by rw [hlen20, Tab_len]))
              have Hsz : Box ((Try.prog.info? 52).map (·.size) = some (SeeM.lastVals l).toArray.size) := ⟨by rw [List.size_toArray, hlen20]; kernel_rfl⟩
              have hth : wr.there w.heap.size 0 (SeeM.lastVals l).toArray.size := fun i hi => by
                rw [List.size_toArray, hlen20] at hi
                rw [Nat.zero_add]
                exact ⟨by rw [HR3.out.res.tabCell hi]; rfl, HR3.out.res.frozen i⟩
              have Hth := box hth
              have H1c : Box ((SeeM.lastVals l).toArray.all (·.oneCell') = true) := ⟨all_oneCell_toArray (by
                intro u hu
                unfold SeeM.lastVals Tab at hu
                obtain ⟨i, _, rfl⟩ := List.mem_map.1 hu
                rfl)⟩
              have HBb := box HR3.out.below
              clear hO hlen20 hLV hth HR3 HRow
              rw [HL.out] at HO HSt Hsz Hth H1c
              go_wp2_with (first | (refine wpList_load_row rfl 52 (.tmp 4) rfl (w.heap.size + 1) (by rfl) 52 _ (0, 0) _ HO.out Try.underlying52 rfl Hsz.out ?_) | (refine wpList_store_mid rfl 52 (.tmp 2) (.tmp 59) rfl w.heap.size 0 L.toArray (by rfl) (by rfl) Hth.out Hsz.out H1c.out ?_))
              refine bodyPost_ret (v := .tuple #[.agg L.toArray, .int .i64 0]) (?_) rfl ⟨rfl, ?_⟩
              · refine results_row_tmp (by rfl) _ _ w.heap.size 52 L.toArray (0, 0) _ ?_ HSt.out Try.underlying52 rfl Hsz.out _ ?_
                · rfl
                · rfl
              exact Below.setCells (Nat.le_refl _) _ 0 HBb.out
end
end Go.Proofs.Ytnhhjjhhicmfpaa
