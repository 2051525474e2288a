/- lock.Ask: an item's list turned, and the table as it is read then. -/
import Derived.Test.YtnnkejolfhhmlaaGreatLkT
import Derived.Deep.RegionLaw
import Derived.Deep.RegionWith
import Derived.Deep.AppendLies
import Derived.Test.YtnnkejolfhhmlaaGreatLkIns
namespace Go.Proofs.YtnnkejolfhhmlaaGreat
section
open Go.RowKit Go.Lib

/-- Where an item stands in a table, or would stand. -/
structure LkM.Pos (t : List LiM) (item : Int) (p : Nat) : Prop where
  le : p ≤ t.length
  lo : ∀ k (h : k < t.length), k < p → t[k].item < item
  hi : ∀ k (h : k < t.length), p ≤ k → item ≤ t[k].item
def LkM.foundAt (t : List LiM) (item : Int) (p : Nat) : Bool := match t[p]? with | some x => x.item == item | none => false
def LkM.PosPost (t : List LiM) (item : Int) (w : World) (e : Ending) (w' : World) : Prop := ∃ p : Nat, LkM.Pos t item p ∧ e = .returned (.tuple #[.int .i64 (p : Int), .bool (LkM.foundAt t item p)]) ∧ Below w.heap.size w w'
set_option maxRecDepth 20000 in
set_option maxHeartbeats 2000000 in
theorem ask_f2 (W : World) (it item : Int) (ha qa : Option Addr) (hn hc qn qc : Nat) (h1 : 0 ≤ it ∧ it < 20) (h2 : 0 ≤ item ∧ item < 20) :
    Calls Tryz.prog 72 #[.agg #[.int .i64 it, .slice ha hn hc, .slice qa qn qc], .int .i64 item] W fun e w' => e = .returned (.int .i64 (it - item)) ∧ Below W.heap.size W w' := by
  obtain ⟨h3, h4⟩ := h1
  obtain ⟨h5, h6⟩ := h2
  go_enter Tryz.func72, Tryz.ntmps72
  go_wp2_with fail
  go_ret
  exact ⟨rfl, (Below.refl _ _).alloc (Nat.le_refl _) _⟩

set_option maxRecDepth 20000 in
set_option maxHeartbeats 4000000 in
theorem bsearch_any (t : List LiM) (item : Int) (ao : Option Addr) (cap lo : Nat) (w : World) (h : LisIn w lo ao t) (hs : t.length ≤ 20) (hr : t.Pairwise fun x y => x.item < y.item) (hd : ∀ x ∈ t, 0 ≤ x.item ∧ x.item < 20) (hi : 0 ≤ item ∧ item < 20) :
    Calls Tryz.prog 71 #[.slice ao t.length cap, .int .i64 item, .func (.func 72) #[] #[]] w (LkM.PosPost t item w) := by
  have H := box h; have HD := box hd; have HI := box hi; have HR := box (List.pairwise_iff_getElem.1 hr)
  clear h hr hd hi
  obtain ⟨N, HN⟩ : ∃ N, Box (t.length = N) := ⟨_, ⟨rfl⟩⟩
  have eg := enters_fn Tryz.func72 (by kernel_rfl) rfl
  rw [HN.out] at hs ⊢
  go_enter Tryz.func71, Tryz.ntmps71
  go_wp2_with fail
  go_loopw [9, 10] (fun t9 t10 wr => ∃ i j : Nat, i ≤ j ∧ j ≤ N ∧ t9 = .int .i64 (i : Int) ∧ t10 = .int .i64 (j : Int) ∧ Box ((∀ k (h : k < t.length), k < i → t[k].item < item) ∧ (∀ k (h : k < t.length), j ≤ k → item ≤ t[k].item) ∧ Below w.heap.size w wr)) (fun t9 t10 _ => (RowKit.intOf t10).toNat - (RowKit.intOf t9).toNat)
  case atStart => exact ⟨0, N, Nat.zero_le _, Nat.le_refl _, rfl, rfl, ⟨fun k _ h => by omega, fun k h h2 => by have := HN.out; omega, Below.refl _ _⟩⟩
  case round =>
    obtain ⟨i, j, hij, hj, rfl, rfl, HQ⟩ := hrel
    by_cases hlt : i < j
    · obtain ⟨m, hm⟩ : ∃ m : Nat, ((i : Int) + (j : Int)) / 2 = (m : Int) := ⟨(i + j) / 2, by omega⟩
      have hmi : i ≤ m := by omega
      have hmj : m < j := by omega
      have hml : m < t.length := by rw [HN.out]; omega
      obtain ⟨b, off, rfl, _, hb, hrow⟩ := (H.out.below HQ.out.2.2 (Nat.le_refl _)).resolve_left (by intro h; rw [h] at hml; simp at hml)
      obtain ⟨ha, hc, qa, qc, hli⟩ := hrow m hml
      have HDm := box (HD.out _ (List.getElem_mem hml))
      have HLo : Box (t[m].item < item → ∀ k (h : k < t.length), k < m + 1 → t[k].item < item) := ⟨fun e k h hk => by
        by_cases e2 : k = m
        · subst e2; exact e
        · exact Int.lt_trans (HR.out k m h hml (by omega)) e⟩
      have HHi : Box (¬ t[m].item < item → ∀ k (h : k < t.length), m ≤ k → item ≤ t[k].item) := ⟨fun e k h hk => by
        by_cases e2 : m = k
        · subst e2; omega
        · have := HR.out m k hml h (by omega); omega⟩
      generalize t[m] = x at *
      obtain ⟨it, held, queue⟩ := x
      obtain ⟨c0, c1, c2, _, _, _, _, _, _⟩ := hli
      dsimp only at c0 c1 c2 HDm HLo HHi
      generalize held.length = HL at *
      generalize queue.length = QL at *
      have hmN : m < N := by omega
      clear hrow
      go_wp2_with fail
      refine (ask_f2 wr it item ha qa HL hc QL qc HDm.out HI.out).mono ?_
      rintro e w5 ⟨rfl, hb5⟩
      have HB5 := box (below_tr HQ.out.2.2 hb5)
      clear hb5
      cases d0 : decide (it - item < 0) with
      | true =>
        have HNx := box (HLo.out (by have := of_decide_eq_true d0; omega))
        go_wp2_with fail
        go_roundw
        case rel => exact ⟨m + 1, j, by omega, hj, by go_num, rfl, ⟨HNx.out, HQ.out.2.1, HB5.out⟩⟩
        case measure => simp [RowKit.intOf]; omega
      | false =>
        have HNx := box (HHi.out (by have := of_decide_eq_false d0; omega))
        go_wp2_with fail
        go_roundw
        case rel => exact ⟨i, m, hmi, by omega, rfl, by go_num, ⟨HQ.out.1, HNx.out, HB5.out⟩⟩
        case measure => simp [RowKit.intOf]; omega
    · obtain rfl : i = j := by omega
      have HP : Box (LkM.Pos t item i) := ⟨⟨by rw [HN.out]; exact hj, HQ.out.1, HQ.out.2.1⟩⟩
      have HB := box HQ.out.2.2
      clear HQ
      by_cases hiN : i < N
      · have hil : i < t.length := by rw [HN.out]; exact hiN
        obtain ⟨b, off, rfl, _, hb, hrow⟩ := (H.out.below HB.out (Nat.le_refl _)).resolve_left (by intro h; rw [h] at hil; simp at hil)
        obtain ⟨ha, hc, qa, qc, hli⟩ := hrow i hil
        have HDm := box (HD.out _ (List.getElem_mem hil))
        have HF : Box (LkM.foundAt t item i = (t[i].item == item)) := ⟨by unfold LkM.foundAt; rw [List.getElem?_eq_getElem hil]⟩
        generalize t[i] = x at *
        obtain ⟨it, held, queue⟩ := x
        obtain ⟨c0, c1, c2, _, _, _, _, _, _⟩ := hli
        dsimp only at c0 c1 c2 HDm HF
        generalize held.length = HL at *
        generalize queue.length = QL at *
        have hq : ((it - item : Int) == 0) = (it == item) := by
          rw [show ((it - item : Int) == 0) = decide (it - item = 0) from rfl, show (it == item) = decide (it = item) from rfl]
          exact decide_eq_decide.2 (by omega)
        rw [← hq] at HF
        have d1 : decide (i < N) = true := by simpa using hiN
        clear hrow hq hlt
        go_wp2_with fail
        refine (ask_f2 wr it item ha qa HL hc QL qc HDm.out HI.out).mono ?_
        rintro e w5 ⟨rfl, hb5⟩
        have HB5 := box (below_tr HB.out hb5)
        clear hb5
        generalize it - item = df at *
        go_wp2_with fail
        go_ret2
        exact ⟨i, HP.out, by rw [HF.out]; rfl, HB5.out⟩
      · have HF : Box (LkM.foundAt t item i = false) := ⟨by unfold LkM.foundAt; rw [List.getElem?_eq_none (by rw [HN.out]; omega)]⟩
        have d1 : decide (i < N) = false := by simpa using hiN
        clear hlt
        go_wp2_with fail
        go_ret2
        exact ⟨i, HP.out, by rw [HF.out]; rfl, HB.out⟩
end
section
open Go.RowKit Go.Lib

/-- What give leaves: the item at block g, place o, holds more; all else is as it was. -/
structure LkM.GiveP (w : World) (B g o : Nat) (hv : Value) (l : List LkM) (w' : World) : Prop where
  row : ∃ ha hc, w'.ownsRow B 137 2 (.slice ha l.length hc) l.length (lkVals l) ∧ w'.cell? ⟨g, o + 1, none⟩ = some (.slice ha l.length hc) ∧ ((Value.slice ha l.length hc).ownBlock = hv.ownBlock ∨ ∃ b, (Value.slice ha l.length hc).ownBlock = some b ∧ w.heap.size ≤ b)
  cells : ∀ i, i ≠ o + 1 → w'.cell? ⟨g, i, none⟩ = w.cell? ⟨g, i, none⟩
  frozen : ∀ i, w'.frozen? ⟨g, i, none⟩ = w.frozen? ⟨g, i, none⟩
  heap : ∀ b, b < w.heap.size → b ≠ g → hv.ownBlock ≠ some b → w'.heap[b]? = w.heap[b]?
  below : ∀ B0, B0 ≤ g → B0 ≤ B → B0 ≤ w.heap.size → Below B0 w w'
/-- Mode of the first lock of a transaction. -/
theorem LkM.give_at {held : List LkM} {a : LkM} {k : Nat} (hk : k < held.length) (h1 : ∀ j (hj : j < held.length), j < k → (held[j].tx == a.tx) = false) (h2 : held[k].tx = a.tx) : LkM.give held a = held.set k ⟨a.tx, LkM.wish held a⟩ := by
  have hf : held.findIdx (fun h => h.tx == a.tx) = k := by
    rw [List.findIdx_eq hk]
    exact ⟨by simpa using h2, fun j hj => h1 j (by omega) hj⟩
  unfold LkM.give
  rw [if_pos (LkM.has_iff.2 ⟨_, List.getElem_mem hk, h2⟩), hf]
theorem LkM.give_new {held : List LkM} {a : LkM} (h1 : ∀ j (hj : j < held.length), (held[j].tx == a.tx) = false) : LkM.give held a = held ++ [⟨a.tx, LkM.wish held a⟩] := by
  unfold LkM.give
  rw [if_neg]
  intro h
  obtain ⟨x, hx, e⟩ := LkM.has_iff.1 h
  obtain ⟨j, hj, rfl⟩ := List.mem_iff_getElem.1 hx
  have := h1 j hj
  rw [e] at this
  simp at this
theorem lkVals_set (l : List LkM) : ∀ (i : Nat) (x : LkM) (h : i < l.length), x.tx = l[i].tx → (lkVals l).set (i * 2 + 1) (.int .i64 x.mode) = lkVals (l.set i x) := by
  induction l with
  | nil => intro i x h; simp at h
  | cons a r ih =>
    intro i x h e
    cases i with
    | zero =>
      simp only [List.getElem_cons_zero] at e
      simp [lkVals, e]
    | succ i =>
      have := ih i x (by simpa using h) (by simpa using e)
      rw [show (i + 1) * 2 + 1 = (i * 2 + 1) + 2 by omega]
      simp only [lkVals, List.flatMap_cons, List.cons_append, List.nil_append, List.set_cons_succ] at this ⊢
      rw [this]

theorem LkM.GiveP.set {w wr : World} {B g o N hc b : Nat} {held : List LkM} {k : Nat} {x : LkM} (hb : Below w.heap.size w wr) (ho : w.ownsRow B 137 2 (.slice (some ⟨b, 0, none⟩) N hc) N (lkVals held)) (hN : held.length = N)
    (hne : b ≠ g) (hg : g < w.heap.size) (c1 : w.cell? ⟨g, o + 1, none⟩ = some (.slice (some ⟨b, 0, none⟩) N hc)) (hk : k < held.length) (hx : x.tx = held[k].tx) : LkM.GiveP w B g o (.slice (some ⟨b, 0, none⟩) N hc) (held.set k x) (wr.setCell ⟨b, k * 2 + 1, none⟩ (.int .i64 x.mode)) := by
  have hlt := ho.lt b rfl
  have hown := (ownsRow_below ho hb).stored (k * 2 + 1) (.int .i64 x.mode)
  rw [lkVals_set held k x hk hx] at hown
  have hgb : (wr.setCell ⟨b, k * 2 + 1, none⟩ (.int .i64 x.mode)).heap[g]? = w.heap[g]? := (Below.heap_setCell _ _ _ _ (by show g ≠ b; exact fun e => hne e.symm)).trans (hb.block g hg)
  refine ⟨⟨some ⟨b, 0, none⟩, hc, ?_, ?_, Or.inl ?_⟩, fun i _ => World.cell?_of_block (a := ⟨g, i, none⟩) hgb, fun i => World.frozen?_of_block (a := ⟨g, i, none⟩) hgb, fun b' h1 h2 h3 => ?_, fun B0 h1 h2 h3 => ?_⟩
  · rw [List.length_set, hN]; exact hown.1
  · rw [List.length_set, hN]
    exact (World.cell?_of_block (a := ⟨g, o + 1, none⟩) hgb).trans c1
  · rfl
  · exact (Below.heap_setCell _ _ _ _ (by show b' ≠ b; exact fun e => h3 (by rw [e]; rfl))).trans (hb.block b' h1)
  · exact (hb.mono h3).setCell (by show B0 ≤ b; omega) _
theorem LkM.GiveP.app {w wa w7 : World} {B g o gg gcap : Nat} {hv : Value} {held : List LkM} {x : LkM} (hb : Below w.heap.size w wa) (ho : w.ownsRow B 137 2 hv held.length (lkVals held))
    (hne : hv.ownBlock ≠ some g) (hg : g < w.heap.size) (c1 : ∃ v, w.cell? ⟨g, o + 1, none⟩ = some v)
    (h7 : w7.ownsRow B 137 2 (.slice (some ⟨gg, 0, none⟩) (held.length + 1) gcap) (held.length + 1) (lkVals held ++ [.int .i64 x.tx, .int .i64 x.mode])) (hgrow : wa.grownBy w7 hv.ownBlock) (hat : hv.ownBlock = some gg ∨ w.heap.size ≤ gg) :
    LkM.GiveP w B g o hv (held ++ [x]) (w7.setCell ⟨g, o + 1, none⟩ (.slice (some ⟨gg, 0, none⟩) (held.length + 1) gcap)) := by
  have hgs := Nat.lt_of_lt_of_le hg hb.size
  have hg7 : w7.heap[g]? = w.heap[g]? := (hgrow.block g hgs (fun e => hne e.symm)).trans (hb.block g hg)
  obtain ⟨v1, c1⟩ := c1
  have c7 : w7.cell? ⟨g, o + 1, none⟩ = some v1 := (World.cell?_of_block (a := ⟨g, o + 1, none⟩) hg7).trans c1
  have e1 : lkVals (held ++ [x]) = lkVals held ++ [.int .i64 x.tx, .int .i64 x.mode] := by rw [lkVals_append]; rfl
  have hgg : gg ≠ g := by
    rcases hat with h | h
    · rintro rfl; exact hne h
    · omega
  refine ⟨⟨some ⟨gg, 0, none⟩, gcap, ?_, ?_, ?_⟩, fun i hi => ?_, fun i => ?_, fun b' h1 h2 h3 => ?_, fun B0 h1 h2 h3 => ?_⟩
  · rw [List.length_append, List.length_singleton, e1]
    exact ownsRow_setCell_other h7 (by intro e; injection e with e; exact hgg e) _
  · rw [List.length_append, List.length_singleton]
    exact World.cell?_setCell_same _ _ _ c7
  · rcases hat with h | h
    · exact Or.inl h.symm
    · exact Or.inr ⟨gg, rfl, h⟩
  · exact (World.cell?_setCell_other w7 ⟨g, o + 1, none⟩ ⟨g, i, none⟩ (.slice (some ⟨gg, 0, none⟩) (held.length + 1) gcap) (by intro e; injection e with _ e; exact hi e.symm)).trans (World.cell?_of_block (a := ⟨g, i, none⟩) hg7)
  · rw [World.frozen?_setCell]
    exact World.frozen?_of_block (a := ⟨g, i, none⟩) hg7
  · exact (Below.heap_setCell _ _ _ _ (by show b' ≠ g; exact h2)).trans ((hgrow.block b' (Nat.lt_of_lt_of_le h1 hb.size) (fun e => h3 e.symm)).trans (hb.block b' h1))
  · exact ((hb.mono h3).grown hgrow (Nat.le_trans h3 hb.size) (fun k hk => Nat.le_trans h2 (ho.lt k hk).1)).setCell (by show B0 ≤ g; exact h1) _
theorem LkM.GiveP.drew {w w' : World} {B g o : Nat} {hv : Value} {l : List LkM} (h : LkM.GiveP w B g o hv l w') : LkM.GiveP w B g o hv l w'.drew :=
  ⟨h.row, h.cells, h.frozen, h.heap, fun B0 h1 h2 h3 => (h.below B0 h1 h2 h3).drew⟩

set_option maxRecDepth 20000 in
set_option maxHeartbeats 16000000 in
theorem give_any (it : Int) (held : List LkM) (ha : Option Addr) (hc : Nat) (qa : Option Addr) (qn qc : Nat) (a : LkM) (w : World) (B g o : Nat)
    (c0 : w.cell? ⟨g, o, none⟩ = some (.int .i64 it)) (c1 : w.cell? ⟨g, o + 1, none⟩ = some (.slice ha held.length hc)) (c2 : w.cell? ⟨g, o + 2, none⟩ = some (.slice qa qn qc)) (hz : w.frozen? ⟨g, o + 1, none⟩ = false) (hg : g < w.heap.size)
    (ho : w.ownsRow B 137 2 (.slice ha held.length hc) held.length (lkVals held)) (hne : (Value.slice ha held.length hc).ownBlock ≠ some g) (hm : LkM.Modes held) (ham : 1 ≤ a.mode ∧ a.mode ≤ 5) (hn : held.length ≤ 1000) (hB : B ≤ w.heap.size) :
    Calls Tryz.prog 76 #[.pointer (some ⟨g, o, none⟩), .agg #[.int .i64 a.tx, .int .i64 a.mode]] w fun e w' => e = .returned (.tuple #[]) ∧ LkM.GiveP w B g o (.slice ha held.length hc) (LkM.give held a) w' := by
  obtain ⟨i0, hi0, hz0, hz1, hz2⟩ := info_parts Tryz.infoLk
  have HO := box ho; have HNe := box hne
  have HWs := box (fun (wx : World) (hb : Below w.heap.size w wx) => wish_any it held ha hc qa qn qc a wx (by
    obtain ⟨ao, cap, e, _, hat, _, _⟩ := LksAt.own ho
    injection e with e1 _ e2
    subst e1 e2
    exact hat.below hb (Nat.le_refl _)) hm ham (by omega))
  have HAt := box (fun k (hk : k < held.length) (h1 : ∀ j (hj : j < held.length), j < k → (held[j].tx == a.tx) = false) (h2 : held[k].tx = a.tx) => LkM.give_at hk h1 h2)
  have HNw := box (fun (h1 : ∀ j (hj : j < held.length), (held[j].tx == a.tx) = false) => LkM.give_new h1)
  have C0 := box c0; have C1 := box c1; have C2 := box c2; have HZ := box hz
  clear ho hne hm c0 c1 c2 hz ham
  obtain ⟨res, HRes⟩ : ∃ x, Box (LkM.give held a = x) := ⟨_, ⟨rfl⟩⟩
  obtain ⟨m, HM⟩ : ∃ x, Box (LkM.wish held a = x) := ⟨_, ⟨rfl⟩⟩
  simp only [HRes.out, HM.out] at HAt HNw HWs
  rw [HRes.out]
  obtain ⟨tx, mode⟩ := a
  dsimp only at HAt HNw HWs ⊢
  obtain ⟨N, HN⟩ : ∃ N, Box (held.length = N) := ⟨_, ⟨rfl⟩⟩
  rw [HN.out] at HO HNe C1 HWs hn ⊢
  obtain ⟨X, HX⟩ : ∃ X, Box ((fun e w' => e = Ending.returned (.tuple #[]) ∧ LkM.GiveP w B g o (.slice ha N hc) res w') = X) := ⟨_, ⟨rfl⟩⟩
  rw [HX.out]
  have hbw : Below w.heap.size w (w.alloc (.cells #[.int .i64 tx, .int .i64 mode] 137)) := (Below.refl _ _).alloc (Nat.le_refl _) _
  have HS : Box (Below w.heap.size w (w.alloc (.cells #[.int .i64 tx, .int .i64 mode] 137)) ∧ Blk (w.alloc (.cells #[.int .i64 tx, .int .i64 mode] 137)) w.heap.size 137 [.int .i64 tx, .int .i64 mode]) := ⟨hbw, Blk.new _ _ _⟩
  obtain ⟨Ab, HAb⟩ : ∃ x, Box (w.heap.size = x) := ⟨_, ⟨rfl⟩⟩
  obtain ⟨W1, HW1⟩ : ∃ W, Box (w.alloc (.cells #[.int .i64 tx, .int .i64 mode] 137) = W) := ⟨_, ⟨rfl⟩⟩
  rw [HW1.out] at HS
  rw [HAb.out] at HS HWs hg hB
  clear hbw
  go_enter Tryz.func76, Tryz.ntmps76
  go_upto_region 1 with (fail)
  rw [HAb.out, HW1.out]
  have hcell : ∀ i, W1.cell? ⟨g, i, none⟩ = w.cell? ⟨g, i, none⟩ := fun i => HS.out.1.cell (p := ⟨g, i, none⟩) hg
  have g0 := (hcell o).trans C0.out
  have g1 := (hcell (o + 1)).trans C1.out
  have g2 := (hcell (o + 2)).trans C2.out
  have a0 := HS.out.2.cell (i := 0) rfl
  have a1 := HS.out.2.cell (i := 1) rfl
  have hAs := HS.out.2.lt
  have hgs : g < W1.heap.size := by omega
  clear hcell
  go_cut [4] (fun s4 wx => s4 = .int .i64 m ∧ Box (Below Ab w wx ∧ Blk wx Ab 137 [.int .i64 tx, .int .i64 mode]))
  case first =>
    go_region_with (go_at_call 104; refine (HWs.out _ (by first | exact HS.out.1 | exact HS.out.1.drew)).mono ?_; rintro e w' ⟨rfl, hb'⟩)
    all_goals (have HBf : Box (Below Ab w w' ∧ Blk w' Ab 137 [.int .i64 tx, .int .i64 mode]) := ⟨by
      first
        | exact ⟨HS.out.1.trans (hb'.mono (Nat.le_of_lt hAs)), HS.out.2.after hb'⟩
        | exact ⟨HS.out.1.drew.trans (hb'.mono (Nat.le_of_lt hAs)), HS.out.2.drew.after hb'⟩⟩)
    all_goals (clear hb')
    all_goals (go_wp2_with fail)
    all_goals go_meet
    all_goals first
      | exact ⟨rfl, HBf⟩
      | exact ⟨rfl, ⟨HBf.out.1.drew, HBf.out.2.drew⟩⟩
  case rest =>
    clear g0 g1 g2 a0 a1 hAs hgs HS HW1
    obtain ⟨rfl, HC⟩ := hcut
    have g1 := (HC.out.1.cell (p := ⟨g, o + 1, none⟩) hg).trans C1.out
    have hgs : g < wc.heap.size := by have := HC.out.1.size; have := HAb.out; omega
    go_step
    go_wp2_with fail
    go_loopw [16] (fun t16 wr => ∃ k : Nat, k ≤ N ∧ t16 = .int .i64 (k : Int) ∧ Box ((∀ j (hj : j < held.length), j < k → (held[j].tx == tx) = false) ∧ Below Ab w wr ∧ Blk wr Ab 137 [.int .i64 tx, .int .i64 mode])) (fun t16 _ => N - (RowKit.intOf t16).toNat)
    case atStart => exact ⟨0, Nat.zero_le _, rfl, ⟨fun j _ h => by omega, HC.out⟩⟩
    case round =>
      obtain ⟨k, hk, rfl, HR⟩ := hrel
      clear HC g1 hgs
      have g1 := (HR.out.2.1.cell (p := ⟨g, o + 1, none⟩) hg).trans C1.out
      have hgs : g < wr.heap.size := by have := HR.out.2.1.size; have := HAb.out; omega
      have a0 := HR.out.2.2.cell (i := 0) rfl
      have hAs := HR.out.2.2.lt
      by_cases hlt : k < N
      · have hkl : k < held.length := by rw [HN.out]; exact hlt
        obtain ⟨b, hc', hform, _⟩ := World.ownsRow.form HO.out (by omega)
        injection hform with hform _ hc2
        subst hform hc2
        have hor := ownsRow_below HO.out (w' := wr) (by rw [HAb.out]; exact HR.out.2.1)
        have k0 := (hor.cellAt (k * 2) (by omega)).trans (lkVals_at held k hkl).1
        have kz := hor.frozenAt (k * 2 + 1)
        have k1 := (hor.cellAt (k * 2 + 1) (by omega)).trans (lkVals_at held k hkl).2
        have hbs := (hor.lt b rfl).2
        have HSet : Box (∀ x : LkM, x.tx = held[k].tx → LkM.GiveP w B g o (.slice (some ⟨b, 0, none⟩) N hc) (held.set k x) (wr.setCell ⟨b, k * 2 + 1, none⟩ (.int .i64 x.mode))) := ⟨fun x hx => LkM.GiveP.set (by rw [HAb.out]; exact HR.out.2.1) HO.out HN.out (fun e => HNe.out (by rw [e]; rfl)) (by rw [HAb.out]; exact hg) C1.out hkl hx⟩
        have HSd : Box (∀ n, ∀ x : LkM, x.tx = held[k].tx → LkM.GiveP w B g o (.slice (some ⟨b, 0, none⟩) N hc) (held.set k x) ((wr.drewN n).setCell ⟨b, k * 2 + 1, none⟩ (.int .i64 x.mode))) := ⟨fun n x hx => LkM.GiveP.set (by rw [HAb.out]; exact HR.out.2.1.trans ⟨rfl, rfl, rfl, Nat.le_refl _, fun _ _ => rfl⟩) HO.out HN.out (fun e => HNe.out (by rw [e]; rfl)) (by rw [HAb.out]; exact hg) C1.out hkl hx⟩
        have HAk : Box (held[k].tx = tx → res = held.set k ⟨tx, m⟩) := ⟨fun e => HAt.out k hkl HR.out.1 e⟩
        have HNk : Box ((held[k].tx == tx) = false → ∀ j (hj : j < held.length), j < k + 1 → (held[j].tx == tx) = false) := ⟨fun e j hj hjk => by
          by_cases e2 : j = k
          · subst e2; exact e
          · exact HR.out.1 j hj (by omega)⟩
        clear hor HSet
        generalize held[k].tx = xt at *
        cases d0 : (xt == tx) with
        | true =>
          have hxt : xt = tx := by simpa using d0
          have HFin := box (fun n => HSd.out n ⟨tx, m⟩ hxt.symm)
          have HEq := box (HAk.out hxt)
          clear HSd HAk HNk hxt
          go_wp2_with fail
          go_quiet (fail)
          go_wp2_with fail
          rw [← HX.out]
          refine bodyPost_ret (v := .tuple #[]) (results_none rfl _ _ _) rfl ⟨rfl, ?_⟩
          rw [HEq.out]; exact HFin.out nq
        | false =>
          have HNy := box (HNk.out d0)
          clear HSd HAk HNk
          go_wp2_with fail
          go_quiet (fail)
          go_wp2_with fail
          go_roundw
          case rel => exact ⟨k + 1, by omega, by go_num, ⟨HNy.out, HR.out.2.1.trans ⟨rfl, rfl, rfl, Nat.le_refl _, fun _ _ => rfl⟩, HR.out.2.2.after ⟨rfl, rfl, rfl, Nat.le_refl _, fun _ _ => rfl⟩⟩⟩
          case measure => simp [RowKit.intOf]; omega
      · obtain rfl : k = N := by omega
        have HEq := box (HNw.out (fun j hj => HR.out.1 j hj (by rw [← HN.out]; exact hj)))
        have d0 : decide (k < k) = false := by simp
        have hor := box (ownsRow_below HO.out (w' := wr) (by rw [HAb.out]; exact HR.out.2.1))
        have HGb : Box (∀ w2, ((wr.alloc (.cells #[.int .i64 tx, .int .i64 m] 137)).drew).grownBy w2 (Value.slice ha k hc).ownBlock → w2.cell? ⟨g, o + 1, none⟩ = some (.slice ha k hc) ∧ w2.frozen? ⟨g, o + 1, none⟩ = false ∧ g < w2.heap.size) := ⟨fun w2 hgr => by
          have hbb : Below Ab w ((wr.alloc (.cells #[.int .i64 tx, .int .i64 m] 137)).drew) := (HR.out.2.1.alloc (by omega) _).drew
          have hgs2 : g < ((wr.alloc (.cells #[.int .i64 tx, .int .i64 m] 137)).drew).heap.size := Nat.lt_of_lt_of_le hgs (by show wr.heap.size ≤ (wr.alloc (.cells #[.int .i64 tx, .int .i64 m] 137)).heap.size; simp)
          have h7 := (hgr.block g hgs2 (fun e => HNe.out e.symm)).trans (hbb.block g hg)
          exact ⟨(World.cell?_of_block (a := ⟨g, o + 1, none⟩) h7).trans C1.out, (World.frozen?_of_block (a := ⟨g, o + 1, none⟩) h7).trans HZ.out, Nat.lt_of_lt_of_le hgs2 hgr.size⟩⟩
        have HFin : Box (∀ w7 gg gcap, w7.ownsRow B 137 2 (.slice (some ⟨gg, 0, none⟩) (k + 1) gcap) (k + 1) (lkVals held ++ [.int .i64 tx, .int .i64 m]) → ((wr.alloc (.cells #[.int .i64 tx, .int .i64 m] 137)).drew).grownBy w7 (Value.slice ha k hc).ownBlock → ((Value.slice ha k hc).ownBlock = some gg ∨ gg = wr.heap.size + 1) → LkM.GiveP w B g o (.slice ha k hc) res (w7.setCell ⟨g, o + 1, none⟩ (.slice (some ⟨gg, 0, none⟩) (k + 1) gcap))) := ⟨fun w7 gg gcap h1 h2 h3 => by
          rw [HEq.out, ← HN.out]
          rw [← HN.out] at h1 h2 h3
          refine LkM.GiveP.app (x := ⟨tx, m⟩) (wa := (wr.alloc (.cells #[.int .i64 tx, .int .i64 m] 137)).drew) (by rw [HAb.out]; exact (HR.out.2.1.alloc (by omega) _).drew) (by rw [HN.out]; exact HO.out) (by rw [HN.out]; exact HNe.out) (by rw [HAb.out]; exact hg) ⟨_, C1.out⟩ h1 h2 (h3.imp id fun e => by have := HR.out.2.1.size; omega)⟩
        have hBw : B ≤ wr.heap.size := by omega
        clear HO HNw HEq HRes HM HWs C0 C1 C2 HZ
        go_upto_region 8 with (fail)
        go_region_law ((refine step_append_lies _ (by rfl) _ _ _ (by rfl) B 137 i0 _ 2 16 Tryz.underlying132 hi0 hz0 hz1 hz2 rfl (by omega) (.slice ha k hc) _ _ (by rfl) ((hor.out.alloc _).drew) ⟨wr.heap.size, 0, none⟩ 1 1 [.int .i64 tx, .int .i64 m] (by rfl) (by rfl) (World.news_of_block (cs := #[.int .i64 tx, .int .i64 m]) (t := 137) (fr := (0, 0)) (heap_alloc_new wr _)) (by simp [Value.oneCell']) (by omega) (by unfold maxLen; omega) (by omega) (by simp; omega) (wr.heap.size + 1) (by simp) ?_; intro gg gcap w2 hown2 hgrow hat hlt2; have gq := HGb.out _ hgrow; obtain ⟨q0, qz, qs⟩ := gq))
        all_goals
          rw [← HX.out]
          refine bodyPost_end (results_none rfl _ _ _) rfl ⟨rfl, ?_⟩
          exact HFin.out _ _ _ hown2 hgrow hat
end
section
open Go.RowKit Go.Lib

namespace LkM
theorem Pos.tail {x : LiM} {t : List LiM} {item : Int} {p : Nat} (h : Pos (x :: t) item (p + 1)) : Pos t item p :=
  ⟨by have := h.le; simp only [List.length_cons] at this; omega, fun k hk hkp => h.lo (k + 1) (by simp; omega) (by omega), fun k hk hkp => h.hi (k + 1) (by simp; omega) (by omega)⟩
theorem askIn_new {item : Int} {a : LkM} : ∀ {t : List LiM} {p : Nat}, Pos t item p → foundAt t item p = false → askIn item a t = (t.take p ++ ⟨item, [a], []⟩ :: t.drop p, true)
  | [], p, h, _ => by
    have := h.le
    simp only [List.length_nil] at this
    obtain rfl : p = 0 := by omega
    rfl
  | x :: r, 0, h, hf => by
    have h1 := h.hi 0 (by simp) (by omega)
    simp only [List.getElem_cons_zero] at h1
    unfold foundAt at hf
    simp only [List.getElem?_cons_zero] at hf
    have h2 : ¬ x.item = item := by simpa using hf
    unfold askIn
    rw [if_neg (by omega), if_neg h2]
    rfl
  | x :: r, p + 1, h, hf => by
    have h1 := h.lo 0 (by simp) (by omega)
    simp only [List.getElem_cons_zero] at h1
    unfold askIn
    rw [if_pos h1, askIn_new h.tail (by unfold foundAt at hf ⊢; simpa using hf)]
    rfl
theorem askIn_old {item : Int} {a : LkM} : ∀ {t : List LiM} {p : Nat} (hp : p < t.length), Pos t item p → t[p].item = item → askIn item a t = (t.set p (askItem t[p] a).1, (askItem t[p] a).2)
  | [], p, hp, _, _ => by simp at hp
  | x :: r, 0, hp, h, he => by
    simp only [List.getElem_cons_zero] at he ⊢
    unfold askIn
    rw [if_neg (by omega), if_pos he]
    rfl
  | x :: r, p + 1, hp, h, he => by
    have h1 := h.lo 0 (by simp) (by omega)
    simp only [List.getElem_cons_zero] at h1
    simp only [List.getElem_cons_succ] at he ⊢
    unfold askIn
    rw [if_pos h1, askIn_old (by simpa using hp) h.tail he]
    rfl
theorem foundAt_iff {t : List LiM} {item : Int} {p : Nat} (hf : foundAt t item p = true) : ∃ h : p < t.length, t[p].item = item := by
  unfold foundAt at hf
  cases hp : t[p]? with
  | none => rw [hp] at hf; cases hf
  | some x =>
    obtain ⟨h1, h2⟩ := List.getElem?_eq_some_iff.1 hp
    rw [hp] at hf
    exact ⟨h1, by rw [h2]; simpa using hf⟩
/-- The rows of a table, as they are read. -/
def RowIn (w : World) (lo : Nat) (v : Value) (l : List LkM) : Prop := ∃ a c, v = .slice a l.length c ∧ LksIn w lo a l ∧ l.length ≤ c ∧ (a = none → c = 0)
theorem RowIn.own {w : World} {base n : Nat} {v : Value} {l : List LkM} (h : w.ownsRow base 137 2 v n (lkVals l)) : RowIn w base v l := by
  obtain ⟨a, c, h1, _, h2, h3, h4⟩ := LksIn.own h
  exact ⟨a, c, h1, h2, h4, h3⟩
/-- A table in an own row, with its rows. -/
theorem lis_of {w : World} {B g cap : Nat} {t : List LiM} {v : Nat → Value} (h : w.ownsRow B 134 3 (.slice (some ⟨g, 0, none⟩) t.length cap) t.length (liVals t v)) (hr : ∀ k (hk : k < t.length), RowIn w B (v (2 * k)) t[k].held ∧ RowIn w B (v (2 * k + 1)) t[k].queue) : LisIn w B (some ⟨g, 0, none⟩) t := by
  refine Or.inr ⟨g, 0, rfl, (h.lt g rfl).1, (h.lt g rfl).2, fun k hk => ?_⟩
  obtain ⟨⟨ha, hc, f1, f2, f3, f4⟩, qa, qc, g1, g2, g3, g4⟩ := hr k hk
  obtain ⟨e1, e2, e3⟩ := liVals_at (v := v) hk
  rw [f1] at e2
  rw [g1] at e3
  refine ⟨ha, hc, qa, qc, ?_, ?_, ?_, f2, g2, f3, g3, f4, g4⟩
  · rw [Nat.zero_add, h.cellAt (k * 3) (by omega), e1]
  · rw [Nat.zero_add, h.cellAt (k * 3 + 1) (by omega), e2]
  · rw [Nat.zero_add, h.cellAt (k * 3 + 2) (by omega), e3]
/-- The rows' values where an item has been put in. -/
def putV (v : Nat → Value) (p : Nat) (x : Value) (i : Nat) : Value := if i < 2 * p then v i else if i = 2 * p then x else if i = 2 * p + 1 then .slice none 0 0 else v (i - 2)
theorem liVals_put {t : List LiM} {v : Nat → Value} {p : Nat} (hp : p ≤ t.length) (y : LiM) (x : Value) : (liVals t v).take (p * 3) ++ [.int .i64 y.item, x, .slice none 0 0] ++ (liVals t v).drop (p * 3) = liVals (t.take p ++ y :: t.drop p) (putV v p x) := by
  have hl := liVals_len t v
  have hl' : (t.take p ++ y :: t.drop p).length = t.length + 1 := by rw [List.length_append, List.length_cons, List.length_take, List.length_drop]; omega
  have hL := liVals_len (t.take p ++ y :: t.drop p) (putV v p x)
  rw [hl'] at hL
  have key : ∀ k, k < t.length + 1 → ∀ d, d < 3 → ((liVals t v).take (p * 3) ++ [.int .i64 y.item, x, .slice none 0 0] ++ (liVals t v).drop (p * 3))[k * 3 + d]? = (liVals (t.take p ++ y :: t.drop p) (putV v p x))[k * 3 + d]? := by
    intro k hk d hd
    obtain ⟨r1, r2, r3⟩ := liVals_at (t := t.take p ++ y :: t.drop p) (v := putV v p x) (k := k) (by omega)
    by_cases h1 : k < p
    · obtain ⟨l1, l2, l3⟩ := liVals_at (t := t) (v := v) (k := k) (by omega)
      rw [List.append_assoc, List.getElem?_append_left (by rw [List.length_take]; omega), List.getElem?_take_of_lt (by omega)]
      have e1 : (t.take p ++ y :: t.drop p)[k]'(by omega) = t[k] := by
        rw [List.getElem_append_left (by rw [List.length_take]; omega), List.getElem_take]
      have e2 : putV v p x (2 * k) = v (2 * k) := by unfold putV; rw [if_pos (by omega)]
      have e3 : putV v p x (2 * k + 1) = v (2 * k + 1) := by unfold putV; rw [if_pos (by omega)]
      rcases (show d = 0 ∨ d = 1 ∨ d = 2 by omega) with rfl | rfl | rfl
      · rw [Nat.add_zero, l1, r1, e1]
      · rw [l2, r2, e2]
      · rw [l3, r3, e3]
    · by_cases h2 : k = p
      · subst h2
        have e1 : (t.take k ++ y :: t.drop k)[k]'(by omega) = y := by
          rw [List.getElem_append_right (by rw [List.length_take]; omega)]
          simp [List.length_take, Nat.min_eq_left hp]
        have e2 : putV v k x (2 * k) = x := by unfold putV; rw [if_neg (by omega), if_pos rfl]
        have e3 : putV v k x (2 * k + 1) = .slice none 0 0 := by unfold putV; rw [if_neg (by omega), if_neg (by omega), if_pos rfl]
        rw [List.append_assoc, List.getElem?_append_right (by rw [List.length_take]; omega), List.length_take, hl, Nat.min_eq_left (by omega), show k * 3 + d - k * 3 = d by omega]
        rcases (show d = 0 ∨ d = 1 ∨ d = 2 by omega) with rfl | rfl | rfl
        · rw [Nat.add_zero, r1, e1]; rfl
        · rw [r2, e2]; rfl
        · rw [r3, e3]; rfl
      · obtain ⟨l1, l2, l3⟩ := liVals_at (t := t) (v := v) (k := k - 1) (by omega)
        have e1 : (t.take p ++ y :: t.drop p)[k]'(by omega) = t[k - 1] := by
          rw [List.getElem_append_right (by rw [List.length_take]; omega)]
          have : k - (t.take p).length = (k - 1 - p) + 1 := by rw [List.length_take]; omega
          simp only [this, List.getElem_cons_succ, List.getElem_drop]
          congr 1
          omega
        have e2 : putV v p x (2 * k) = v (2 * (k - 1)) := by
          unfold putV; rw [if_neg (by omega), if_neg (by omega), if_neg (by omega)]
          congr 1
          omega
        have e3 : putV v p x (2 * k + 1) = v (2 * (k - 1) + 1) := by
          unfold putV; rw [if_neg (by omega), if_neg (by omega), if_neg (by omega)]
          congr 1
          omega
        have hm : k * 3 + d - (p * 3 + 3) + p * 3 = (k - 1) * 3 + d := by omega
        rw [List.getElem?_append_right (by rw [List.length_append, List.length_take]; simp only [List.length_cons, List.length_nil]; omega), List.getElem?_drop]
        rw [show p * 3 + (k * 3 + d - ((liVals t v).take (p * 3) ++ [.int .i64 y.item, x, .slice none 0 0]).length) = (k - 1) * 3 + d by rw [List.length_append, List.length_take]; simp only [List.length_cons, List.length_nil]; omega]
        rcases (show d = 0 ∨ d = 1 ∨ d = 2 by omega) with rfl | rfl | rfl
        · rw [Nat.add_zero, Nat.add_zero, l1, r1, e1]
        · rw [l2, r2, e2]
        · rw [l3, r3, e3]
  apply List.ext_getElem?
  intro j
  by_cases hj : j < (t.length + 1) * 3
  · have := key (j / 3) (by omega) (j % 3) (by omega)
    rwa [show j / 3 * 3 + j % 3 = j by omega] at this
  · rw [List.getElem?_eq_none (by simp only [List.length_append, List.length_take, List.length_drop, List.length_cons, List.length_nil]; omega), List.getElem?_eq_none (by omega)]
/-- A table with an item more. -/
theorem lis_put {w8 w' : World} {B g' cap' p : Nat} {tv x : Value} {t : List LiM} {v : Nat → Value} {y : LiM} (hT : OwnT w8 B tv t v) (h50 : t.length < 50) (hp : p ≤ t.length) (hq : y.queue = []) (hx : RowIn w' B x y.held)
    (ho : w'.ownsRow B 134 3 (.slice (some ⟨g', 0, none⟩) (t.length + 1) cap') (t.length + 1) ((liVals t v).take (p * 3) ++ [.int .i64 y.item, x, .slice none 0 0] ++ (liVals t v).drop (p * 3))) (hg : w8.grownBy w' tv.ownBlock) : LisIn w' B (some ⟨g', 0, none⟩) (t.take p ++ y :: t.drop p) := by
  have hl' : (t.take p ++ y :: t.drop p).length = t.length + 1 := by rw [List.length_append, List.length_cons, List.length_take, List.length_drop]; omega
  rw [liVals_put hp y x, ← hl'] at ho
  have hF := hT.fam.kept hg (fun i hi => row_ne (hT.fam.own i hi) hT.tab (by decide))
  have hold : ∀ k (hk : k < t.length), RowIn w' B (v (2 * k)) t[k].held ∧ RowIn w' B (v (2 * k + 1)) t[k].queue := fun k hk => by
    have h1 := hF.own (2 * k) (by omega)
    have h2 := hF.own (2 * k + 1) (by omega)
    simp only [row_held hk] at h1
    simp only [row_queue hk] at h2
    exact ⟨RowIn.own h1, RowIn.own h2⟩
  refine lis_of ho fun k hk => ?_
  rw [hl'] at hk
  by_cases h1 : k < p
  · have e1 : (t.take p ++ y :: t.drop p)[k]'(by omega) = t[k] := by
      rw [List.getElem_append_left (by rw [List.length_take]; omega), List.getElem_take]
    rw [e1, show putV v p x (2 * k) = v (2 * k) by unfold putV; rw [if_pos (by omega)], show putV v p x (2 * k + 1) = v (2 * k + 1) by unfold putV; rw [if_pos (by omega)]]
    exact hold k (by omega)
  · by_cases h2 : k = p
    · subst h2
      have e1 : (t.take k ++ y :: t.drop k)[k]'(by omega) = y := by
        rw [List.getElem_append_right (by rw [List.length_take]; omega)]
        simp [List.length_take, Nat.min_eq_left hp]
      rw [e1, show putV v k x (2 * k) = x by unfold putV; rw [if_neg (by omega), if_pos rfl], show putV v k x (2 * k + 1) = .slice none 0 0 by unfold putV; rw [if_neg (by omega), if_neg (by omega), if_pos rfl], hq]
      exact ⟨hx, none, 0, rfl, Or.inl rfl, Nat.le_refl _, fun _ => rfl⟩
    · have e1 : (t.take p ++ y :: t.drop p)[k]'(by omega) = t[k - 1] := by
        rw [List.getElem_append_right (by rw [List.length_take]; omega)]
        have : k - (t.take p).length = (k - 1 - p) + 1 := by rw [List.length_take]; omega
        simp only [this, List.getElem_cons_succ, List.getElem_drop]
        congr 1
        omega
      rw [e1, show putV v p x (2 * k) = v (2 * (k - 1)) by
          unfold putV; rw [if_neg (by omega), if_neg (by omega), if_neg (by omega)]
          congr 1
          omega, show putV v p x (2 * k + 1) = v (2 * (k - 1) + 1) by
          unfold putV; rw [if_neg (by omega), if_neg (by omega), if_neg (by omega)]
          congr 1
          omega]
      exact hold (k - 1) (by omega)
/-- A table with an item changed. -/
theorem lis_set {W w' : World} {B g p : Nat} {tv : Value} {t : List LiM} {v : Nat → Value} {y : LiM} {ha qa : Option Addr} {hc qc : Nat} (hT : OwnT W B tv t v) (h50 : t.length < 50) (hg : tv.ownBlock = some g) (hp : p < t.length)
    (hy : LiIn w' B g (0 + p * 3) y ha hc qa qc) (hcell : ∀ i, (i < p * 3 ∨ p * 3 + 3 ≤ i) → w'.cell? ⟨g, i, none⟩ = W.cell? ⟨g, i, none⟩) (hrow : ∀ i, i < 100 → i ≠ 2 * p → i ≠ 2 * p + 1 → ∀ b, (v i).ownBlock = some b → w'.heap[b]? = W.heap[b]?) (hs : W.heap.size ≤ w'.heap.size) : LisIn w' B (some ⟨g, 0, none⟩) (t.set p y) := by
  have hgl := hT.tab.lt g hg
  refine Or.inr ⟨g, 0, rfl, hgl.1, by omega, fun k hk => ?_⟩
  rw [List.length_set] at hk
  by_cases e : k = p
  · subst e
    rw [List.getElem_set_self]
    exact ⟨ha, hc, qa, qc, hy⟩
  · rw [List.getElem_set_ne (Ne.symm e)]
    obtain ⟨ha', hc', qa', qc', f1, f2, h⟩ := hT.item (by omega) hk hg
    have hin : ∀ (i : Nat) (l : List LkM) (a : Option Addr) (n c : Nat), i < 100 → i ≠ 2 * p → i ≠ 2 * p + 1 → v i = .slice a n c → LksIn W B a l → LksIn w' B a l := fun i l a n c hi h1 h2 hv hl => hl.imp id fun ⟨b, off, e1, e2, e3, e4⟩ => by
      have hb := hrow i hi h1 h2 b (by rw [hv, e1]; rfl)
      exact ⟨b, off, e1, e2, by omega, fun k hk => ⟨(World.cell?_of_block (a := ⟨b, off + k * 2, none⟩) hb).trans (e4 k hk).1, (World.cell?_of_block (a := ⟨b, off + k * 2 + 1, none⟩) hb).trans (e4 k hk).2⟩⟩
    refine ⟨ha', hc', qa', qc', ?_, ?_, ?_, hin (2 * k) _ _ _ _ (by omega) (by omega) (by omega) f1 h.held, hin (2 * k + 1) _ _ _ _ (by omega) (by omega) (by omega) f2 h.queue, h.hcap, h.qcap, h.hnil, h.qnil⟩
    · rw [hcell _ (by omega)]; exact h.c0
    · rw [hcell _ (by omega)]; exact h.c1
    · rw [hcell _ (by omega)]; exact h.c2
end LkM
end
section
open Go.RowKit Go.Lib

theorem row_front {w : World} {base e size g cap n : Nat} {xs : List Value} (h : w.ownsRow base e size (.slice (some ⟨g, 0, none⟩) n cap) n xs) {m : Nat} (hm : m ≤ n) : w.ownsRow base e size (.slice (some ⟨g, 0, none⟩) m cap) m (xs.take (m * size)) := by
  obtain ⟨h1, h2⟩ := h
  have hle : m * size ≤ n * size := Nat.mul_le_mul_right _ hm
  refine ⟨by rw [List.length_take]; omega, ?_⟩
  rcases h2 with ⟨h0, _⟩ | ⟨g', cap', cur, hv, hg, hh, hn, hcap, hsz, htake⟩
  · cases h0
  · cases hv
    refine .inr ⟨g, cap, cur, rfl, hg, hh, by omega, hcap, hsz, ?_⟩
    rw [← htake, List.take_take, Nat.min_eq_left hle]

theorem lkVals_take (l : List LkM) : ∀ i, (lkVals l).take (i * 2) = lkVals (l.take i) := by
  induction l with
  | nil => intro i; simp [lkVals]
  | cons a r ih =>
    intro i
    cases i with
    | zero => simp [lkVals]
    | succ i =>
      have := ih i
      rw [show (i + 1) * 2 = i * 2 + 2 by omega]
      simp only [lkVals, List.flatMap_cons, List.cons_append, List.nil_append, List.take_succ_cons] at this ⊢
      rw [this]
theorem lkVals_drop (l : List LkM) : ∀ i, (lkVals l).drop (i * 2) = lkVals (l.drop i) := by
  induction l with
  | nil => intro i; simp [lkVals]
  | cons a r ih =>
    intro i
    cases i with
    | zero => simp [lkVals]
    | succ i =>
      have := ih i
      rw [show (i + 1) * 2 = i * 2 + 2 by omega]
      simp only [lkVals, List.flatMap_cons, List.cons_append, List.nil_append, List.drop_succ_cons] at this ⊢
      rw [this]
theorem lkVals_mid (l : List LkM) (a : LkM) (i : Nat) : lkVals (l.take i ++ a :: l.drop i) = (lkVals l).take (i * 2) ++ [.int .i64 a.tx, .int .i64 a.mode] ++ (lkVals l).drop (i * 2) := by
  rw [lkVals_take, lkVals_drop, lkVals_append, List.append_assoc]
  rfl
namespace LkM
section
variable {W W' : World} {B g p : Nat} {tv : Value} {t : List LiM} {v : Nat → Value} {l : List LkM}
theorem lks_moved {ao : Option Addr} {n c : Nat} {q : List LkM} (h : LksIn W B ao q) (hb : ∀ b, (Value.slice ao n c).ownBlock = some b → W'.heap[b]? = W.heap[b]?) (hs : W.heap.size ≤ W'.heap.size) : LksIn W' B ao q :=
  h.imp id fun ⟨b, off, e1, e2, e3, e4⟩ => by
    have hb := hb b (by rw [e1]; rfl)
    exact ⟨b, off, e1, e2, by omega, fun k hk => ⟨(World.cell?_of_block (a := ⟨b, off + k * 2, none⟩) hb).trans (e4 k hk).1, (World.cell?_of_block (a := ⟨b, off + k * 2 + 1, none⟩) hb).trans (e4 k hk).2⟩⟩
theorem give_fin (hT : OwnT W B tv t v) (h50 : t.length < 50) (hg : tv.ownBlock = some g) (hp : p < t.length) (hG : GiveP W B g (p * 3) (v (2 * p)) l W') : LisIn W' B (some ⟨g, 0, none⟩) (t.set p { t[p] with held := l }) := by
  obtain ⟨ha, hc, qa, qc, f1, f2, hi⟩ := hT.item (by omega) hp hg
  rw [Nat.zero_add] at hi
  obtain ⟨⟨na, nc, hown, hcell, _⟩, hcells, _, hheap, hbel⟩ := hG
  have hsz : W.heap.size ≤ W'.heap.size := (hbel 0 (Nat.zero_le _) (Nat.zero_le _) (Nat.zero_le _)).size
  have hne : ∀ i, i < 100 → ∀ b, (v i).ownBlock = some b → b ≠ g := fun i hi b hb e => by
    rcases row_ne (hT.fam.own i hi) hT.tab (by decide) with h | h
    · rw [h] at hb; cases hb
    · exact h (by rw [hb, hg, e])
  have hrow : ∀ i, i < 100 → i ≠ 2 * p → ∀ b, (v i).ownBlock = some b → W'.heap[b]? = W.heap[b]? := fun i hi hip b hb =>
    hheap b ((hT.fam.own i hi).lt b hb).2 (hne i hi b hb) (fun e => hT.fam.apart i (2 * p) hi (by omega) hip b hb e)
  obtain ⟨_, _, e1, _, hin, hn0, hnc⟩ := LksIn.own hown
  injection e1 with e1 _ e2
  subst e1 e2
  refine lis_set hT h50 hg hp (y := { t[p] with held := l }) (ha := na) (hc := nc) (qa := qa) (qc := qc) ?_ (fun i hi => hcells i (by omega)) (fun i hi h1 _ => hrow i hi h1) hsz
  rw [Nat.zero_add]
  exact ⟨(hcells _ (by omega)).trans hi.c0, hcell, (hcells _ (by omega)).trans hi.c2, hin, lks_moved hi.queue (fun b hb => hrow (2 * p + 1) (by omega) (by omega) b (by rw [f2]; exact hb)) hsz, hnc, hi.qcap, hn0, hi.qnil⟩
theorem que_fin (hT : OwnT W B tv t v) (h50 : t.length < 50) (hg : tv.ownBlock = some g) (hp : p < t.length) (hG : GiveP W B g (p * 3 + 1) (v (2 * p + 1)) l W') : LisIn W' B (some ⟨g, 0, none⟩) (t.set p { t[p] with queue := l }) := by
  obtain ⟨ha, hc, qa, qc, f1, f2, hi⟩ := hT.item (by omega) hp hg
  rw [Nat.zero_add] at hi
  obtain ⟨⟨na, nc, hown, hcell, _⟩, hcells, _, hheap, hbel⟩ := hG
  have hsz : W.heap.size ≤ W'.heap.size := (hbel 0 (Nat.zero_le _) (Nat.zero_le _) (Nat.zero_le _)).size
  have hne : ∀ i, i < 100 → ∀ b, (v i).ownBlock = some b → b ≠ g := fun i hi b hb e => by
    rcases row_ne (hT.fam.own i hi) hT.tab (by decide) with h | h
    · rw [h] at hb; cases hb
    · exact h (by rw [hb, hg, e])
  have hrow : ∀ i, i < 100 → i ≠ 2 * p + 1 → ∀ b, (v i).ownBlock = some b → W'.heap[b]? = W.heap[b]? := fun i hi hip b hb =>
    hheap b ((hT.fam.own i hi).lt b hb).2 (hne i hi b hb) (fun e => hT.fam.apart i (2 * p + 1) hi (by omega) hip b hb e)
  obtain ⟨_, _, e1, _, hin, hn0, hnc⟩ := LksIn.own hown
  injection e1 with e1 _ e2
  subst e1 e2
  refine lis_set hT h50 hg hp (y := { t[p] with queue := l }) (ha := ha) (hc := hc) (qa := na) (qc := nc) ?_ (fun i hi => hcells i (by omega)) (fun i hi _ h1 => hrow i hi h1) hsz
  rw [Nat.zero_add]
  exact ⟨(hcells _ (by omega)).trans hi.c0, (hcells _ (by omega)).trans hi.c1, hcell, lks_moved hi.held (fun b hb => hrow (2 * p) (by omega) (by omega) b (by rw [f1]; exact hb)) hsz, hin, hi.hcap, hnc, hi.hnil, hn0⟩
end
/-- The list is laid anew. -/
theorem GiveP.again {w w9 w10 w11 : World} {B g o q gg gcap : Nat} {hv : Value} {l l' : List LkM} (h : GiveP w B g o hv l w9) (hb : Below w9.heap.size w9 w10) (hg : g < w.heap.size) (hvB : ∀ b, hv.ownBlock = some b → B ≤ b) (c1 : ∃ u, w10.cell? ⟨g, o + 1, none⟩ = some u)
    (h11 : w11.ownsRow B 137 2 (.slice (some ⟨gg, 0, none⟩) l'.length gcap) l'.length (lkVals l')) (hgrow : w10.grownBy w11 (some q)) (hq : hv.ownBlock = some q ∨ w.heap.size ≤ q) (hgg : gg = q ∨ w.heap.size ≤ gg) (hqg : q ≠ g) :
    GiveP w B g o hv l' (w11.setCell ⟨g, o + 1, none⟩ (.slice (some ⟨gg, 0, none⟩) l'.length gcap)) := by
  obtain ⟨_, hcells, hfroz, hheap, hbel⟩ := h
  have hs9 : w.heap.size ≤ w9.heap.size := (hbel 0 (Nat.zero_le _) (Nat.zero_le _) (Nat.zero_le _)).size
  have hg9 : g < w9.heap.size := by omega
  have hg10 : w10.heap[g]? = w9.heap[g]? := hb.block g hg9
  have hg11 : w11.heap[g]? = w10.heap[g]? := hgrow.block g (Nat.lt_of_lt_of_le hg9 hb.size) (fun e => by injection e with e; exact hqg e.symm)
  obtain ⟨u, c1⟩ := c1
  have c11 : w11.cell? ⟨g, o + 1, none⟩ = some u := (World.cell?_of_block (a := ⟨g, o + 1, none⟩) hg11).trans c1
  have hggne : gg ≠ g := by
    rcases hgg with rfl | h
    · exact hqg
    · omega
  refine ⟨⟨some ⟨gg, 0, none⟩, gcap, ownsRow_setCell_other h11 (by intro e; injection e with e; exact hggne e) _, World.cell?_setCell_same _ _ _ c11, ?_⟩, fun i hi => ?_, fun i => ?_, fun b h1 h2 h3 => ?_, fun B0 h1 h2 h3 => ?_⟩
  · rcases hgg with rfl | h
    · rcases hq with h | h
      · exact Or.inl h.symm
      · exact Or.inr ⟨gg, rfl, h⟩
    · exact Or.inr ⟨gg, rfl, h⟩
  · exact (World.cell?_setCell_other w11 ⟨g, o + 1, none⟩ ⟨g, i, none⟩ _ (by intro e; injection e with _ e; exact hi e.symm)).trans ((World.cell?_of_block (a := ⟨g, i, none⟩) (hg11.trans hg10)).trans (hcells i hi))
  · rw [World.frozen?_setCell]
    exact (World.frozen?_of_block (a := ⟨g, i, none⟩) (hg11.trans hg10)).trans (hfroz i)
  · have hbq : b ≠ q := by
      rcases hq with h | h
      · rintro rfl; exact h3 h
      · omega
    exact (Below.heap_setCell _ _ _ _ (by show b ≠ g; exact h2)).trans ((hgrow.block b (by have := hb.size; omega) (fun e => by injection e with e; exact hbq e)).trans ((hb.block b (by omega)).trans (hheap b h1 h2 h3)))
  · refine (((hbel B0 h1 h2 h3).trans (hb.mono (by omega))).grown hgrow (by have := hb.size; omega) (fun k hk => ?_)).setCell (by show B0 ≤ g; exact h1) _
    injection hk with hk
    subst hk
    rcases hq with h | h
    · exact Nat.le_trans h2 (hvB _ h)
    · omega
/-- How far who has something already goes ahead. -/
theorem ahead_le (held : List LkM) : ∀ q : List LkM, ahead held q ≤ q.length
  | [] => Nat.le_refl _
  | a :: r => by
    unfold ahead
    split
    · simpa using ahead_le held r
    · simp
theorem ahead_eq {held : List LkM} : ∀ {q : List LkM} {n : Nat}, n ≤ q.length → (∀ j (hj : j < q.length), j < n → has held q[j].tx = true) → (∀ (hn : n < q.length), has held q[n].tx = false) → ahead held q = n
  | [], n, h, _, _ => by
    simp only [List.length_nil] at h
    obtain rfl : n = 0 := by omega
    rfl
  | a :: r, 0, _, _, h2 => by
    have := h2 (by simp)
    simp only [List.getElem_cons_zero] at this
    unfold ahead
    rw [if_neg (by rw [this]; simp)]
  | a :: r, n + 1, h, h1, h2 => by
    have := h1 0 (by simp) (by omega)
    simp only [List.getElem_cons_zero] at this
    unfold ahead
    rw [if_pos this, ahead_eq (n := n) (by simpa using h) (fun j hj hjn => by have := h1 (j + 1) (by simp; omega) (by omega); rwa [List.getElem_cons_succ] at this) (fun hn => by have := h2 (by simp; omega); rwa [List.getElem_cons_succ] at this)]
/-- The last region of Ask: the lock laid, put in, and the row's slice stored. -/
structure InsS (w0 V8 : World) (B g p QL Xb : Nat) (hv : Value) (l : List LkM) (tx mode : Int) (b14 b15 b18 : Bool) (v14 v15 : Value) (w : World) : Prop where
  pre : b15 = false → Below w0.heap.size w0 w
  lit : b14 = true → b15 = false → ∃ b1, v14 = .slice (some ⟨b1, 0, none⟩) 1 1 ∧ Blk w b1 137 [.int .i64 tx, .int .i64 mode] ∧ w0.heap.size ≤ b1
  ptr : b18 = false → w.cell? ⟨Xb, 0, none⟩ = some (.pointer (some ⟨g, p * 3, none⟩))
  mid : b15 = true → b18 = false → ∃ gg gcap, v15 = .slice (some ⟨gg, 0, none⟩) (QL + 1) gcap ∧ (∃ u, w.cell? ⟨g, p * 3 + 2, none⟩ = some u) ∧ w.frozen? ⟨g, p * 3 + 2, none⟩ = false ∧ GiveP V8 B g (p * 3 + 1) hv l (w.setCell ⟨g, p * 3 + 2, none⟩ (.slice (some ⟨gg, 0, none⟩) (QL + 1) gcap))
  fin : b18 = true → GiveP V8 B g (p * 3 + 1) hv l w
section
variable {w0 V8 w w' : World} {B g p QL Xb : Nat} {hv v14 v15 : Value} {l : List LkM} {tx mode : Int}
theorem InsS.lay (h : InsS w0 V8 B g p QL Xb hv l tx mode false false false v14 v15 w) (hX : Xb < w0.heap.size) : InsS w0 V8 B g p QL Xb hv l tx mode true false false (.slice (some ⟨w.heap.size, 0, none⟩) 1 1) v15 (w.alloc (.cells #[.int .i64 tx, .int .i64 mode] 137)) :=
  ⟨fun _ => (h.pre rfl).alloc (h.pre rfl).size _, fun _ _ => ⟨_, rfl, Blk.new _ _ _, (h.pre rfl).size⟩, fun _ => (World.cell?_alloc_lt _ _ _ (Nat.lt_of_lt_of_le hX (h.pre rfl).size)).trans (h.ptr rfl), (fun h1 => by cases h1), (fun h1 => by cases h1)⟩
theorem InsS.call {gg gcap : Nat} (h1 : w'.cell? ⟨Xb, 0, none⟩ = some (.pointer (some ⟨g, p * 3, none⟩))) (h2 : ∃ u, w'.cell? ⟨g, p * 3 + 2, none⟩ = some u) (h3 : w'.frozen? ⟨g, p * 3 + 2, none⟩ = false) (h4 : GiveP V8 B g (p * 3 + 1) hv l (w'.setCell ⟨g, p * 3 + 2, none⟩ (.slice (some ⟨gg, 0, none⟩) (QL + 1) gcap))) : InsS w0 V8 B g p QL Xb hv l tx mode true true false v14 (.slice (some ⟨gg, 0, none⟩) (QL + 1) gcap) w' :=
  ⟨(fun h1 => by cases h1), (fun _ h1 => by cases h1), fun _ => h1, fun _ _ => ⟨gg, gcap, rfl, h2, h3, h4⟩, (fun h1 => by cases h1)⟩
theorem InsS.put (h : GiveP V8 B g (p * 3 + 1) hv l w) : InsS w0 V8 B g p QL Xb hv l tx mode true true true v14 v15 w := ⟨(fun h1 => by cases h1), (fun _ h1 => by cases h1), (fun h1 => by cases h1), (fun _ h1 => by cases h1), fun _ => h⟩
end
end LkM
end
end Go.Proofs.YtnnkejolfhhmlaaGreat
