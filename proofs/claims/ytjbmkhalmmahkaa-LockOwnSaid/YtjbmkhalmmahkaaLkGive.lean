/- lock.give: what it does. -/
import Derived.Test.YtjbmkhalmmahkaaLkT
import Derived.Deep.RegionLaw
import Derived.Deep.RegionWith
import Derived.Deep.AppendLies
namespace Go.Proofs.Ytjbmkhalmmahkaa
open Go.RowKit Go.Lib

/-- What give leaves: the item at block g, place o, holds more; all else is as it was. -/
structure LkM.GiveP (w : World) (B g o : Nat) (hv : Value) (l : List LkM) (w' : World) : Prop where
  row : ∃ ha hc, w'.ownsRow B 28 2 (.slice ha l.length hc) l.length (lkVals l) ∧ w'.cell? ⟨g, o + 1, none⟩ = some (.slice ha l.length hc) ∧ ((Value.slice ha l.length hc).ownBlock = hv.ownBlock ∨ ∃ b, (Value.slice ha l.length hc).ownBlock = some b ∧ w.heap.size ≤ b)
  cells : ∀ i, i ≠ o + 1 → w'.cell? ⟨g, i, none⟩ = w.cell? ⟨g, i, none⟩
  frozen : ∀ i, w'.frozen? ⟨g, i, none⟩ = w.frozen? ⟨g, i, none⟩
  heap : ∀ b, b < w.heap.size → b ≠ g → hv.ownBlock ≠ some b → w'.heap[b]? = w.heap[b]?
  below : ∀ B0, B0 ≤ g → B0 ≤ B → B0 ≤ w.heap.size → Below B0 w w'
/-- Mode of the first lock of a transaction. -/
theorem LkM.give_at {held : List LkM} {a : LkM} {k : Nat} (hk : k < held.length) (h1 : ∀ j (hj : j < held.length), j < k → (held[j].tx == a.tx) = false) (h2 : held[k].tx = a.tx) : LkM.give held a = held.set k ⟨a.tx, LkM.wish held a⟩ := by
  have hf : held.findIdx (fun h => h.tx == a.tx) = k := by
    rw [List.findIdx_eq hk]
    exact ⟨by simpa using h2, fun j hj => h1 j (by omega) hj⟩
  unfold LkM.give
  rw [if_pos (LkM.has_iff.2 ⟨_, List.getElem_mem hk, h2⟩), hf]
theorem LkM.give_new {held : List LkM} {a : LkM} (h1 : ∀ j (hj : j < held.length), (held[j].tx == a.tx) = false) : LkM.give held a = held ++ [⟨a.tx, LkM.wish held a⟩] := by
  unfold LkM.give
  rw [if_neg]
  intro h
  obtain ⟨x, hx, e⟩ := LkM.has_iff.1 h
  obtain ⟨j, hj, rfl⟩ := List.mem_iff_getElem.1 hx
  have := h1 j hj
  rw [e] at this
  simp at this
theorem lkVals_set (l : List LkM) : ∀ (i : Nat) (x : LkM) (h : i < l.length), x.tx = l[i].tx → (lkVals l).set (i * 2 + 1) (.int .i64 x.mode) = lkVals (l.set i x) := by
  induction l with
  | nil => intro i x h; simp at h
  | cons a r ih =>
    intro i x h e
    cases i with
    | zero =>
      simp only [List.getElem_cons_zero] at e
      simp [lkVals, e]
    | succ i =>
      have := ih i x (by simpa using h) (by simpa using e)
      rw [show (i + 1) * 2 + 1 = (i * 2 + 1) + 2 by omega]
      simp only [lkVals, List.flatMap_cons, List.cons_append, List.nil_append, List.set_cons_succ] at this ⊢
      rw [this]

theorem LkM.GiveP.set {w wr : World} {B g o N hc b : Nat} {held : List LkM} {k : Nat} {x : LkM} (hb : Below w.heap.size w wr) (ho : w.ownsRow B 28 2 (.slice (some ⟨b, 0, none⟩) N hc) N (lkVals held)) (hN : held.length = N)
    (hne : b ≠ g) (hg : g < w.heap.size) (c1 : w.cell? ⟨g, o + 1, none⟩ = some (.slice (some ⟨b, 0, none⟩) N hc)) (hk : k < held.length) (hx : x.tx = held[k].tx) : LkM.GiveP w B g o (.slice (some ⟨b, 0, none⟩) N hc) (held.set k x) (wr.setCell ⟨b, k * 2 + 1, none⟩ (.int .i64 x.mode)) := by
  have hlt := ho.lt b rfl
  have hown := (ownsRow_below ho hb).stored (k * 2 + 1) (.int .i64 x.mode)
  rw [lkVals_set held k x hk hx] at hown
  have hgb : (wr.setCell ⟨b, k * 2 + 1, none⟩ (.int .i64 x.mode)).heap[g]? = w.heap[g]? := (Below.heap_setCell _ _ _ _ (by show g ≠ b; exact fun e => hne e.symm)).trans (hb.block g hg)
  refine ⟨⟨some ⟨b, 0, none⟩, hc, ?_, ?_, Or.inl ?_⟩, fun i _ => World.cell?_of_block (a := ⟨g, i, none⟩) hgb, fun i => World.frozen?_of_block (a := ⟨g, i, none⟩) hgb, fun b' h1 h2 h3 => ?_, fun B0 h1 h2 h3 => ?_⟩
  · rw [List.length_set, hN]; exact hown.1
  · rw [List.length_set, hN]
    exact (World.cell?_of_block (a := ⟨g, o + 1, none⟩) hgb).trans c1
  · rfl
  · exact (Below.heap_setCell _ _ _ _ (by show b' ≠ b; exact fun e => h3 (by rw [e]; rfl))).trans (hb.block b' h1)
  · exact (hb.mono h3).setCell (by show B0 ≤ b; omega) _
theorem LkM.GiveP.app {w wa w7 : World} {B g o gg gcap : Nat} {hv : Value} {held : List LkM} {x : LkM} (hb : Below w.heap.size w wa) (ho : w.ownsRow B 28 2 hv held.length (lkVals held))
    (hne : hv.ownBlock ≠ some g) (hg : g < w.heap.size) (c1 : ∃ v, w.cell? ⟨g, o + 1, none⟩ = some v)
    (h7 : w7.ownsRow B 28 2 (.slice (some ⟨gg, 0, none⟩) (held.length + 1) gcap) (held.length + 1) (lkVals held ++ [.int .i64 x.tx, .int .i64 x.mode])) (hgrow : wa.grownBy w7 hv.ownBlock) (hat : hv.ownBlock = some gg ∨ w.heap.size ≤ gg) :
    LkM.GiveP w B g o hv (held ++ [x]) (w7.setCell ⟨g, o + 1, none⟩ (.slice (some ⟨gg, 0, none⟩) (held.length + 1) gcap)) := by
  have hgs := Nat.lt_of_lt_of_le hg hb.size
  have hg7 : w7.heap[g]? = w.heap[g]? := (hgrow.block g hgs (fun e => hne e.symm)).trans (hb.block g hg)
  obtain ⟨v1, c1⟩ := c1
  have c7 : w7.cell? ⟨g, o + 1, none⟩ = some v1 := (World.cell?_of_block (a := ⟨g, o + 1, none⟩) hg7).trans c1
  have e1 : lkVals (held ++ [x]) = lkVals held ++ [.int .i64 x.tx, .int .i64 x.mode] := by rw [lkVals_append]; rfl
  have hgg : gg ≠ g := by
    rcases hat with h | h
    · rintro rfl; exact hne h
    · omega
  refine ⟨⟨some ⟨gg, 0, none⟩, gcap, ?_, ?_, ?_⟩, fun i hi => ?_, fun i => ?_, fun b' h1 h2 h3 => ?_, fun B0 h1 h2 h3 => ?_⟩
  · rw [List.length_append, List.length_singleton, e1]
    exact ownsRow_setCell_other h7 (by intro e; injection e with e; exact hgg e) _
  · rw [List.length_append, List.length_singleton]
    exact World.cell?_setCell_same _ _ _ c7
  · rcases hat with h | h
    · exact Or.inl h.symm
    · exact Or.inr ⟨gg, rfl, h⟩
  · exact (World.cell?_setCell_other w7 ⟨g, o + 1, none⟩ ⟨g, i, none⟩ (.slice (some ⟨gg, 0, none⟩) (held.length + 1) gcap) (by intro e; injection e with _ e; exact hi e.symm)).trans (World.cell?_of_block (a := ⟨g, i, none⟩) hg7)
  · rw [World.frozen?_setCell]
    exact World.frozen?_of_block (a := ⟨g, i, none⟩) hg7
  · exact (Below.heap_setCell _ _ _ _ (by show b' ≠ g; exact h2)).trans ((hgrow.block b' (Nat.lt_of_lt_of_le h1 hb.size) (fun e => h3 e.symm)).trans (hb.block b' h1))
  · exact ((hb.mono h3).grown hgrow (Nat.le_trans h3 hb.size) (fun k hk => Nat.le_trans h2 (ho.lt k hk).1)).setCell (by show B0 ≤ g; exact h1) _
theorem LkM.GiveP.drew {w w' : World} {B g o : Nat} {hv : Value} {l : List LkM} (h : LkM.GiveP w B g o hv l w') : LkM.GiveP w B g o hv l w'.drew :=
  ⟨h.row, h.cells, h.frozen, h.heap, fun B0 h1 h2 h3 => (h.below B0 h1 h2 h3).drew⟩

set_option maxRecDepth 20000 in
set_option maxHeartbeats 16000000 in
theorem give_any (it : Int) (held : List LkM) (ha : Option Addr) (hc : Nat) (qa : Option Addr) (qn qc : Nat) (a : LkM) (w : World) (B g o : Nat)
    (c0 : w.cell? ⟨g, o, none⟩ = some (.int .i64 it)) (c1 : w.cell? ⟨g, o + 1, none⟩ = some (.slice ha held.length hc)) (c2 : w.cell? ⟨g, o + 2, none⟩ = some (.slice qa qn qc)) (hz : w.frozen? ⟨g, o + 1, none⟩ = false) (hg : g < w.heap.size)
    (ho : w.ownsRow B 28 2 (.slice ha held.length hc) held.length (lkVals held)) (hne : (Value.slice ha held.length hc).ownBlock ≠ some g) (hm : LkM.Modes held) (ham : 1 ≤ a.mode ∧ a.mode ≤ 5) (hn : held.length ≤ 1000) (hB : B ≤ w.heap.size) :
    Calls Try.prog 29 #[.pointer (some ⟨g, o, none⟩), .agg #[.int .i64 a.tx, .int .i64 a.mode]] w fun e w' => e = .returned (.tuple #[]) ∧ LkM.GiveP w B g o (.slice ha held.length hc) (LkM.give held a) w' := by
  obtain ⟨i0, hi0, hz0, hz1, hz2⟩ := info_parts Try.infoLk
  have HO := box ho; have HNe := box hne
  have HWs := box (fun (wx : World) (hb : Below w.heap.size w wx) => wish_any it held ha hc qa qn qc a wx (by
    obtain ⟨ao, cap, e, _, hat, _, _⟩ := LksAt.own ho
    injection e with e1 _ e2
    subst e1 e2
    exact hat.below hb (Nat.le_refl _)) hm ham (by omega))
  have HAt := box (fun k (hk : k < held.length) (h1 : ∀ j (hj : j < held.length), j < k → (held[j].tx == a.tx) = false) (h2 : held[k].tx = a.tx) => LkM.give_at hk h1 h2)
  have HNw := box (fun (h1 : ∀ j (hj : j < held.length), (held[j].tx == a.tx) = false) => LkM.give_new h1)
  have C0 := box c0; have C1 := box c1; have C2 := box c2; have HZ := box hz
  clear ho hne hm c0 c1 c2 hz ham
  obtain ⟨res, HRes⟩ : ∃ x, Box (LkM.give held a = x) := ⟨_, ⟨rfl⟩⟩
  obtain ⟨m, HM⟩ : ∃ x, Box (LkM.wish held a = x) := ⟨_, ⟨rfl⟩⟩
  simp only [HRes.out, HM.out] at HAt HNw HWs
  rw [HRes.out]
  obtain ⟨tx, mode⟩ := a
  dsimp only at HAt HNw HWs ⊢
  obtain ⟨N, HN⟩ : ∃ N, Box (held.length = N) := ⟨_, ⟨rfl⟩⟩
  rw [HN.out] at HO HNe C1 HWs hn ⊢
  obtain ⟨X, HX⟩ : ∃ X, Box ((fun e w' => e = Ending.returned (.tuple #[]) ∧ LkM.GiveP w B g o (.slice ha N hc) res w') = X) := ⟨_, ⟨rfl⟩⟩
  rw [HX.out]
  have hbw : Below w.heap.size w (w.alloc (.cells #[.int .i64 tx, .int .i64 mode] 28)) := (Below.refl _ _).alloc (Nat.le_refl _) _
  have HS : Box (Below w.heap.size w (w.alloc (.cells #[.int .i64 tx, .int .i64 mode] 28)) ∧ Blk (w.alloc (.cells #[.int .i64 tx, .int .i64 mode] 28)) w.heap.size 28 [.int .i64 tx, .int .i64 mode]) := ⟨hbw, Blk.new _ _ _⟩
  obtain ⟨Ab, HAb⟩ : ∃ x, Box (w.heap.size = x) := ⟨_, ⟨rfl⟩⟩
  obtain ⟨W1, HW1⟩ : ∃ W, Box (w.alloc (.cells #[.int .i64 tx, .int .i64 mode] 28) = W) := ⟨_, ⟨rfl⟩⟩
  rw [HW1.out] at HS
  rw [HAb.out] at HS HWs hg hB
  clear hbw
  go_enter Try.func29, Try.ntmps29
  go_upto_region 1 with (fail)
  rw [HAb.out, HW1.out]
  have hcell : ∀ i, W1.cell? ⟨g, i, none⟩ = w.cell? ⟨g, i, none⟩ := fun i => HS.out.1.cell (p := ⟨g, i, none⟩) hg
  have g0 := (hcell o).trans C0.out
  have g1 := (hcell (o + 1)).trans C1.out
  have g2 := (hcell (o + 2)).trans C2.out
  have a0 := HS.out.2.cell (i := 0) rfl
  have a1 := HS.out.2.cell (i := 1) rfl
  have hAs := HS.out.2.lt
  have hgs : g < W1.heap.size := by omega
  clear hcell
  go_cut [4] (fun s4 wx => s4 = .int .i64 m ∧ Box (Below Ab w wx ∧ Blk wx Ab 28 [.int .i64 tx, .int .i64 mode]))
  case first =>
    go_region_with (go_at_call 34; refine (HWs.out _ (by first | exact HS.out.1 | exact HS.out.1.drew)).mono ?_; rintro e w' ⟨rfl, hb'⟩)
    all_goals (have HBf : Box (Below Ab w w' ∧ Blk w' Ab 28 [.int .i64 tx, .int .i64 mode]) := ⟨by
      first
        | exact ⟨HS.out.1.trans (hb'.mono (Nat.le_of_lt hAs)), HS.out.2.after hb'⟩
        | exact ⟨HS.out.1.drew.trans (hb'.mono (Nat.le_of_lt hAs)), HS.out.2.drew.after hb'⟩⟩)
    all_goals (clear hb')
    all_goals (go_wp2_with fail)
    all_goals go_meet
    all_goals first
      | exact ⟨rfl, HBf⟩
      | exact ⟨rfl, ⟨HBf.out.1.drew, HBf.out.2.drew⟩⟩
  case rest =>
    clear g0 g1 g2 a0 a1 hAs hgs HS HW1
    obtain ⟨rfl, HC⟩ := hcut
    have g1 := (HC.out.1.cell (p := ⟨g, o + 1, none⟩) hg).trans C1.out
    have hgs : g < wc.heap.size := by have := HC.out.1.size; have := HAb.out; omega
    go_step
    go_wp2_with fail
    go_loopw [16] (fun t16 wr => ∃ k : Nat, k ≤ N ∧ t16 = .int .i64 (k : Int) ∧ Box ((∀ j (hj : j < held.length), j < k → (held[j].tx == tx) = false) ∧ Below Ab w wr ∧ Blk wr Ab 28 [.int .i64 tx, .int .i64 mode])) (fun t16 _ => N - (RowKit.intOf t16).toNat)
    case atStart => exact ⟨0, Nat.zero_le _, rfl, ⟨fun j _ h => by omega, HC.out⟩⟩
    case round =>
      obtain ⟨k, hk, rfl, HR⟩ := hrel
      clear HC g1 hgs
      have g1 := (HR.out.2.1.cell (p := ⟨g, o + 1, none⟩) hg).trans C1.out
      have hgs : g < wr.heap.size := by have := HR.out.2.1.size; have := HAb.out; omega
      have a0 := HR.out.2.2.cell (i := 0) rfl
      have hAs := HR.out.2.2.lt
      by_cases hlt : k < N
      · have hkl : k < held.length := by rw [HN.out]; exact hlt
        obtain ⟨b, hc', hform, _⟩ := World.ownsRow.form HO.out (by omega)
        injection hform with hform _ hc2
        subst hform hc2
        have hor := ownsRow_below HO.out (w' := wr) (by rw [HAb.out]; exact HR.out.2.1)
        have k0 := (hor.cellAt (k * 2) (by omega)).trans (lkVals_at held k hkl).1
        have kz := hor.frozenAt (k * 2 + 1)
        have k1 := (hor.cellAt (k * 2 + 1) (by omega)).trans (lkVals_at held k hkl).2
        have hbs := (hor.lt b rfl).2
        have HSet : Box (∀ x : LkM, x.tx = held[k].tx → LkM.GiveP w B g o (.slice (some ⟨b, 0, none⟩) N hc) (held.set k x) (wr.setCell ⟨b, k * 2 + 1, none⟩ (.int .i64 x.mode))) := ⟨fun x hx => LkM.GiveP.set (by rw [HAb.out]; exact HR.out.2.1) HO.out HN.out (fun e => HNe.out (by rw [e]; rfl)) (by rw [HAb.out]; exact hg) C1.out hkl hx⟩
        have HSd : Box (∀ n, ∀ x : LkM, x.tx = held[k].tx → LkM.GiveP w B g o (.slice (some ⟨b, 0, none⟩) N hc) (held.set k x) ((wr.drewN n).setCell ⟨b, k * 2 + 1, none⟩ (.int .i64 x.mode))) := ⟨fun n x hx => LkM.GiveP.set (by rw [HAb.out]; exact HR.out.2.1.trans ⟨rfl, rfl, rfl, Nat.le_refl _, fun _ _ => rfl⟩) HO.out HN.out (fun e => HNe.out (by rw [e]; rfl)) (by rw [HAb.out]; exact hg) C1.out hkl hx⟩
        have HAk : Box (held[k].tx = tx → res = held.set k ⟨tx, m⟩) := ⟨fun e => HAt.out k hkl HR.out.1 e⟩
        have HNk : Box ((held[k].tx == tx) = false → ∀ j (hj : j < held.length), j < k + 1 → (held[j].tx == tx) = false) := ⟨fun e j hj hjk => by
          by_cases e2 : j = k
          · subst e2; exact e
          · exact HR.out.1 j hj (by omega)⟩
        clear hor HSet
        generalize held[k].tx = xt at *
        cases d0 : (xt == tx) with
        | true =>
          have hxt : xt = tx := by simpa using d0
          have HFin := box (fun n => HSd.out n ⟨tx, m⟩ hxt.symm)
          have HEq := box (HAk.out hxt)
          clear HSd HAk HNk hxt
          go_wp2_with fail
          go_quiet (fail)
          go_wp2_with fail
          rw [← HX.out]
          refine bodyPost_ret (v := .tuple #[]) (results_none rfl _ _ _) rfl ⟨rfl, ?_⟩
          rw [HEq.out]; exact HFin.out nq
        | false =>
          have HNy := box (HNk.out d0)
          clear HSd HAk HNk
          go_wp2_with fail
          go_quiet (fail)
          go_wp2_with fail
          go_roundw
          case rel => exact ⟨k + 1, by omega, by go_num, ⟨HNy.out, HR.out.2.1.trans ⟨rfl, rfl, rfl, Nat.le_refl _, fun _ _ => rfl⟩, HR.out.2.2.after ⟨rfl, rfl, rfl, Nat.le_refl _, fun _ _ => rfl⟩⟩⟩
          case measure => simp [RowKit.intOf]; omega
      · obtain rfl : k = N := by omega
        have HEq := box (HNw.out (fun j hj => HR.out.1 j hj (by rw [← HN.out]; exact hj)))
        have d0 : decide (k < k) = false := by simp
        have hor := box (ownsRow_below HO.out (w' := wr) (by rw [HAb.out]; exact HR.out.2.1))
        have HGb : Box (∀ w2, ((wr.alloc (.cells #[.int .i64 tx, .int .i64 m] 28)).drew).grownBy w2 (Value.slice ha k hc).ownBlock → w2.cell? ⟨g, o + 1, none⟩ = some (.slice ha k hc) ∧ w2.frozen? ⟨g, o + 1, none⟩ = false ∧ g < w2.heap.size) := ⟨fun w2 hgr => by
          have hbb : Below Ab w ((wr.alloc (.cells #[.int .i64 tx, .int .i64 m] 28)).drew) := (HR.out.2.1.alloc (by omega) _).drew
          have hgs2 : g < ((wr.alloc (.cells #[.int .i64 tx, .int .i64 m] 28)).drew).heap.size := Nat.lt_of_lt_of_le hgs (by show wr.heap.size ≤ (wr.alloc (.cells #[.int .i64 tx, .int .i64 m] 28)).heap.size; simp)
          have h7 := (hgr.block g hgs2 (fun e => HNe.out e.symm)).trans (hbb.block g hg)
          exact ⟨(World.cell?_of_block (a := ⟨g, o + 1, none⟩) h7).trans C1.out, (World.frozen?_of_block (a := ⟨g, o + 1, none⟩) h7).trans HZ.out, Nat.lt_of_lt_of_le hgs2 hgr.size⟩⟩
        have HFin : Box (∀ w7 gg gcap, w7.ownsRow B 28 2 (.slice (some ⟨gg, 0, none⟩) (k + 1) gcap) (k + 1) (lkVals held ++ [.int .i64 tx, .int .i64 m]) → ((wr.alloc (.cells #[.int .i64 tx, .int .i64 m] 28)).drew).grownBy w7 (Value.slice ha k hc).ownBlock → ((Value.slice ha k hc).ownBlock = some gg ∨ gg = wr.heap.size + 1) → LkM.GiveP w B g o (.slice ha k hc) res (w7.setCell ⟨g, o + 1, none⟩ (.slice (some ⟨gg, 0, none⟩) (k + 1) gcap))) := ⟨fun w7 gg gcap h1 h2 h3 => by
          rw [HEq.out, ← HN.out]
          rw [← HN.out] at h1 h2 h3
          refine LkM.GiveP.app (x := ⟨tx, m⟩) (wa := (wr.alloc (.cells #[.int .i64 tx, .int .i64 m] 28)).drew) (by rw [HAb.out]; exact (HR.out.2.1.alloc (by omega) _).drew) (by rw [HN.out]; exact HO.out) (by rw [HN.out]; exact HNe.out) (by rw [HAb.out]; exact hg) ⟨_, C1.out⟩ h1 h2 (h3.imp id fun e => by have := HR.out.2.1.size; omega)⟩
        have hBw : B ≤ wr.heap.size := by omega
        clear HO HNw HEq HRes HM HWs C0 C1 C2 HZ
        go_upto_region 8 with (fail)
        go_region_law ((refine step_append_lies _ (by rfl) _ _ _ (by rfl) B 28 i0 _ 2 16 Try.underlying30 hi0 hz0 hz1 hz2 rfl (by omega) (.slice ha k hc) _ _ (by rfl) ((hor.out.alloc _).drew) ⟨wr.heap.size, 0, none⟩ 1 1 [.int .i64 tx, .int .i64 m] (by rfl) (by rfl) (World.news_of_block (cs := #[.int .i64 tx, .int .i64 m]) (t := 28) (fr := (0, 0)) (heap_alloc_new wr _)) (by simp [Value.oneCell']) (by omega) (by unfold maxLen; omega) (by omega) (by simp; omega) (wr.heap.size + 1) (by simp) ?_; intro gg gcap w2 hown2 hgrow hat hlt2; have gq := HGb.out _ hgrow; obtain ⟨q0, qz, qs⟩ := gq))
        all_goals
          rw [← HX.out]
          refine bodyPost_end (results_none rfl _ _ _) rfl ⟨rfl, ?_⟩
          exact HFin.out _ _ _ hown2 hgrow hat
end Go.Proofs.Ytjbmkhalmmahkaa
