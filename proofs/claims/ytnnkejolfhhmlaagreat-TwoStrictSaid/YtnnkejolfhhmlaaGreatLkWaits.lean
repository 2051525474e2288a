/- lock.Waits: what it computes. -/
import Derived.Test.YtnnkejolfhhmlaaGreatLkGl
import Derived.Test.YtnnkejolfhhmlaaGreatTwoL
import Derived.Test.YtnnkejolfhhmlaaGreatEgC
import Derived.Deep.QuietTactic
import Derived.BigQuiet
import Derived.BigRegion
import Derived.StillTailTactics
import Derived.Deep.RegionLaw
namespace Go.Proofs.YtnnkejolfhhmlaaGreat
open Go.RowKit Go.Lib

theorem Tryz.infoEdW : (Tryz.prog.info? 180).map (fun i => (i.zero, i.size, i.bytes)) = some (some (.agg #[.int .i64 0, .int .i64 0]), 2, 16) := by kernel_rfl
namespace LkM
theorem markT_snoc (f : Tb) {t : List LiM} {k : Nat} (hk : k < t.length) : markT f (t.take (k + 1)) = markQ t[k] (markT f (t.take k)) t[k].queue.length := by
  unfold markT
  rw [List.take_succ_eq_append_getElem hk, List.foldl_append]
  rfl
theorem markQ_snoc (x : LiM) (f : Tb) {i : Nat} (hi : i < x.queue.length) : markQ x f (i + 1) = markV x.queue[i] (markH x.queue[i] (wish x.held x.queue[i]) (markQ x f i) x.held) (x.queue.take i) := by
  conv => lhs; unfold markQ
  rw [List.getElem?_eq_getElem hi]
theorem markH_snoc (a : LkM) (m : Int) (f : Tb) {l : List LkM} {j : Nat} (hj : j < l.length) : markH a m f (l.take (j + 1)) = set2 (markH a m f (l.take j)) a.tx.toNat l[j].tx.toNat (markH a m f (l.take j) a.tx.toNat l[j].tx.toNat || bars a.tx m l[j]) := by
  unfold markH
  rw [List.take_succ_eq_append_getElem hj, List.foldl_append]
  rfl
theorem markV_snoc (a : LkM) (f : Tb) {l : List LkM} {j : Nat} (hj : j < l.length) : markV a f (l.take (j + 1)) = set2 (markV a f (l.take j)) a.tx.toNat l[j].tx.toNat true := by
  unfold markV
  rw [List.take_succ_eq_append_getElem hj, List.foldl_append]
  rfl
/-- The matrix of who waits for whom. -/
structure WtW (w : World) (D : Nat) (f : Tb) (W : World) : Prop where
  hD : w.heap.size ≤ D
  below : Below w.heap.size w W
  mat : Blk W D 178 (Go.Proofs.YtnnkejolfhhmlaaGreat.Tab 144 fun c => .bool (f (c / 12) (c % 12)))
section
variable {w W W' : World} {D : Nat} {f : Tb}
theorem WtW.after (h : WtW w D f W) (hb : Below W.heap.size W W') : WtW w D f W' := ⟨h.hD, h.below.trans (hb.mono (by have := h.below.size; omega)), h.mat.after hb⟩
theorem WtW.alloc (h : WtW w D f W) (o : Obj) : WtW w D f (W.alloc o) := h.after ((Below.refl _ _).alloc (Nat.le_refl _) o)
theorem WtW.drew (h : WtW w D f W) : WtW w D f W.drew := ⟨h.hD, h.below.drew, h.mat⟩
theorem WtW.grown (h : WtW w D f W) {v : Value} {n size e : Nat} {xs : List Value} (ho : W.ownsRow w.heap.size e size v n xs) (he : 178 ≠ e) (hg : W.grownBy W' v.ownBlock) : WtW w D f W' :=
  ⟨h.hD, h.below.grown hg h.below.size (fun b hb => (ho.lt b hb).1), h.mat.grown hg (h.mat.ne_own ho he)⟩
theorem WtW.set (h : WtW w D f W) {a b : Nat} (hb : b < 12) (v : Bool) : WtW w D (set2 f a b v) (W.setCell ⟨D, a * 12 + b, none⟩ (.bool v)) := by
  refine ⟨h.hD, h.below.setCell (by show _ ≤ D; exact h.hD) _, ?_⟩
  have := h.mat.tabSet (a * 12 + b) (.bool v)
  rw [show (upd (fun c => Value.bool (f (c / 12) (c % 12))) (a * 12 + b) (.bool v)) = fun c => Value.bool (set2 f a b v (c / 12) (c % 12)) from by
    funext c
    unfold upd set2
    by_cases e : c = a * 12 + b
    · subst e
      rw [if_pos rfl, if_pos ⟨by omega, by omega⟩]
    · rw [if_neg e, if_neg (by omega)]] at this
  exact this
theorem WtW.cell (h : WtW w D f W) {a b : Nat} (ha : a < 12) (hb : b < 12) : W.cell? ⟨D, a * 12 + b, none⟩ = some (.bool (f a b)) := by
  have := h.mat.tabCell (show a * 12 + b < 144 by omega)
  rw [show (a * 12 + b) / 12 = a by omega, show (a * 12 + b) % 12 = b by omega] at this
  exact this
end
theorem edgesTo_succ (f : Tb) (a k : Nat) : edgesTo f a (k + 1) = edgesTo f a k ++ if f a k = true then [⟨(a : Int), (k : Int)⟩] else [] := by
  unfold edgesTo
  rw [List.range_succ, List.filter_append, List.map_append]
  congr 1
  rw [List.filter_cons]
  split <;> rfl
theorem edgesOf_succ (f : Tb) (a : Nat) : edgesOf f (a + 1) = edgesOf f a ++ edgesTo f a 12 := by
  unfold edgesOf
  rw [List.range_succ, List.flatMap_append]
  simp
theorem edgesTo_len (f : Tb) (a k : Nat) : (edgesTo f a k).length ≤ k := by
  unfold edgesTo
  rw [List.length_map]
  exact Nat.le_trans (List.length_filter_le _ _) (by simp)
theorem edgesOf_len (f : Tb) : ∀ a, (edgesOf f a).length ≤ 12 * a
  | 0 => by simp [edgesOf]
  | a + 1 => by
    have := edgesOf_len f a; have := edgesTo_len f a 12
    rw [edgesOf_succ, List.length_append]; omega
/-- What Waits answers. -/
def WaitsPost (t : List LiM) (w : World) (e : Ending) (w' : World) : Prop :=
  Below w.heap.size w w' ∧ ((check t ≠ 0 ∧ e = .returned (.tuple #[.slice none 0 0, .int .i64 (check t)])) ∨
    (check t = 0 ∧ ∃ v, e = .returned (.tuple #[v, .int .i64 0]) ∧ w'.ownsRow w.heap.size 180 2 v (waits t).length (egVals (waits t))))
theorem fit_bits {m y : Int} (hm : 1 ≤ m ∧ m ≤ 5) (hy : 1 ≤ y ∧ y ≤ 5) : (bits BinOp.and IntKind.i64 (LockM.fitsZ m / 2 ^ y.toNat) 1 == 0) = !LockM.fitB m y := by
  rcases LockM.five hm with rfl | rfl | rfl | rfl | rfl <;> rcases LockM.five hy with rfl | rfl | rfl | rfl | rfl <;> kernel_rfl
end LkM

set_option maxRecDepth 100000 in
set_option maxHeartbeats 32000000 in
theorem waits_any (t : List LiM) (ao : Option Addr) (cap lo : Nat) (w : World) (h : LisIn w lo ao t) (hs : LkM.Small t) :
    Calls Tryz.prog 79 #[.slice ao t.length cap] w (LkM.WaitsPost t w) := by
  obtain ⟨i0, hi0, hz0, hz1, hz2⟩ := info_parts Tryz.infoEdW
  have H := box h; have HSm := box hs
  have HCk := box (lockCheck_any t ao cap lo w h hs)
  clear h hs
  obtain ⟨Post, HPost⟩ : ∃ P, Box (LkM.WaitsPost t w = P) := ⟨_, ⟨rfl⟩⟩
  rw [HPost.out]
  obtain ⟨N, HN⟩ : ∃ N, Box (t.length = N) := ⟨_, ⟨rfl⟩⟩
  rw [HN.out] at HCk ⊢
  go_enter Tryz.func79, Tryz.ntmps79
  go_wp2_with fail
  refine HCk.out.mono ?_
  rintro e W2 ⟨rfl, hb2⟩
  have HB2 := box hb2
  clear hb2 HCk
  obtain ⟨c, HC⟩ : ∃ c, Box (LkM.check t = c) := ⟨_, ⟨rfl⟩⟩
  rw [HC.out]
  by_cases h0 : c = 0
  case neg =>
    have g1 : (c == 0) = false := by simp [h0]
    have g2 : (c != 0) = true := by simp [h0]
    have HE : Box (Post (.returned (.tuple #[.slice none 0 0, .int .i64 c])) W2) := ⟨by
      rw [← HPost.out]
      exact ⟨HB2.out, Or.inl ⟨by rw [HC.out]; exact h0, by rw [HC.out]⟩⟩⟩
    clear h0
    go_wp2_with fail
    exact HE.out
  subst h0
  have HGd := box (LkM.check_iff.1 HC.out)
  have hN20 : N ≤ 20 := by have := HGd.out.len; have := HN.out; omega
  go_upto_region 5 with (fail)
  refine name_world (fun W => LkM.WtW w W2.heap.size (LkM.markT (fun _ _ => false) (t.take 0)) W) ⟨HB2.out.size, HB2.out.alloc HB2.out.size _, ?_⟩ ?_
  · exact Blk.new W2 (Tab 144 fun c => .bool (LkM.markT (fun _ _ => false) (t.take 0) (c / 12) (c % 12))) _
  intro W hW
  have HW := box hW
  clear hW HB2
  generalize W2.heap.size = D at *
  go_wp2_with fail
  go_loopw [25] (fun t25 wr => ∃ k : Nat, k ≤ N ∧ t25 = .int .i64 (k : Int) ∧ Box (LkM.WtW w D (LkM.markT (fun _ _ => false) (t.take k)) wr)) (fun t25 _ => N - (RowKit.intOf t25).toNat)
  case atStart => exact ⟨0, Nat.zero_le _, rfl, HW⟩
  case round =>
    obtain ⟨k, hk, rfl, HE⟩ := hrel
    clear HW
    by_cases hlt : k < N
    · have hkl : k < t.length := by rw [HN.out]; exact hlt
      obtain ⟨b, off, rfl, hlo, hb, hrow⟩ := H.out.resolve_left (by intro h; rw [h] at hkl; simp at hkl)
      obtain ⟨ha, hc, qa, qc, hli⟩ := hrow k hkl
      have hH := hli.held
      have hQ := hli.queue
      replace hli := hli.keep hlo hb (fun b' _ h2 => HE.out.below.block b' h2) HE.out.below.size
      replace hb : b < wr.heap.size := Nat.lt_of_lt_of_le hb HE.out.below.size
      have HOkx := box (HGd.out.ok _ (List.getElem_mem hkl))
      have HSn := box (LkM.markT_snoc (fun _ _ => false) hkl)
      generalize t[k] = x at *
      obtain ⟨c0, c1, c2, _, _, _, hqcap, _, _⟩ := hli
      obtain ⟨it, held, queue⟩ := x
      dsimp only at c0 c1 c2 hH hQ hqcap HSn
      have hHl : held.length ≤ 12 := LkM.okl_len HOkx.out.held
      have hQl : queue.length ≤ 12 := LkM.okl_len HOkx.out.queue
      obtain ⟨HL, HHL⟩ : ∃ x, Box (held.length = x) := ⟨_, ⟨rfl⟩⟩
      obtain ⟨QL, HQL⟩ : ∃ x, Box (queue.length = x) := ⟨_, ⟨rfl⟩⟩
      have HHb : Box (∀ W, Below w.heap.size w W → LksAt W ha held) := ⟨fun W hb => hH.at.below hb (Nat.le_refl _)⟩
      have HQb : Box (∀ W, Below w.heap.size w W → LksAt W qa queue) := ⟨fun W hb => hQ.at.below hb (Nat.le_refl _)⟩
      rw [HHL.out] at c1 hHl
      rw [HQL.out] at c2 hQl hqcap HSn
      have HV : Box (Below w.heap.size w (wr.alloc (.cells #[.int .i64 it, .slice ha HL hc, .slice qa QL qc] 134)) ∧ LkM.WtW w D (LkM.markQ ⟨it, held, queue⟩ (LkM.markT (fun _ _ => false) (t.take k)) 0) (wr.alloc (.cells #[.int .i64 it, .slice ha HL hc, .slice qa QL qc] 134)) ∧ Blk (wr.alloc (.cells #[.int .i64 it, .slice ha HL hc, .slice qa QL qc] 134)) wr.heap.size 134 [.int .i64 it, .slice ha HL hc, .slice qa QL qc]) := ⟨HE.out.below.alloc HE.out.below.size _, HE.out.alloc _, Blk.new _ _ _⟩
      clear hrow hH hQ
      go_upto_region 8 with (fail)
      refine name_world (fun W => Below w.heap.size w W ∧ LkM.WtW w D (LkM.markQ ⟨it, held, queue⟩ (LkM.markT (fun _ _ => false) (t.take k)) 0) W ∧ Blk W wr.heap.size 134 [.int .i64 it, .slice ha HL hc, .slice qa QL qc]) HV.out ?_
      rintro W3 ⟨hw1, hw2, hw3⟩
      have HW3 : Box (Below w.heap.size w W3 ∧ LkM.WtW w D (LkM.markQ ⟨it, held, queue⟩ (LkM.markT (fun _ _ => false) (t.take k)) 0) W3 ∧ Blk W3 wr.heap.size 134 [.int .i64 it, .slice ha HL hc, .slice qa QL qc]) := ⟨hw1, hw2, hw3⟩
      have i2 := hw3.cell (i := 2) rfl
      have his := hw3.lt
      clear hw1 hw2 hw3 HV HE c0 c1 c2 hb
      generalize wr.heap.size = I at *
      go_wp2_with fail
      go_loopw [32] (fun t32 wr => ∃ i : Nat, i ≤ QL ∧ t32 = .int .i64 (i : Int) ∧ Box (Below w.heap.size w wr ∧ LkM.WtW w D (LkM.markQ ⟨it, held, queue⟩ (LkM.markT (fun _ _ => false) (t.take k)) i) wr ∧ Blk wr I 134 [.int .i64 it, .slice ha HL hc, .slice qa QL qc])) (fun t32 _ => QL - (RowKit.intOf t32).toNat)
      case atStart => exact ⟨0, Nat.zero_le _, rfl, HW3⟩
      case round =>
        obtain ⟨i, hi, rfl, HR⟩ := hrel
        clear HW3 i2 his
        by_cases hiq : i < QL
        · have hil : i < queue.length := by rw [HQL.out]; exact hiq
          obtain ⟨qb, qoff, rfl, hqb, hqrow⟩ := (HQb.out wr HR.out.1).resolve_left (by intro h; rw [h] at hil; simp at hil)
          obtain ⟨q0, q1⟩ := hqrow i hil
          have HDa := box (HOkx.out.queue.dom _ (List.getElem_mem hil))
          have hsq := LkM.markQ_snoc ⟨it, held, queue⟩ (LkM.markT (fun _ _ => false) (t.take k)) hil
          dsimp only at hsq
          have HTk : Box (∀ j (hj : j < queue.length), j < i → 0 ≤ queue[j].tx ∧ queue[j].tx < 12) := ⟨fun j hj _ => by have := HOkx.out.queue.dom _ (List.getElem_mem hj); omega⟩
          obtain ⟨F, HFe⟩ : ∃ F, Box (LkM.markQ ⟨it, held, queue⟩ (LkM.markT (fun _ _ => false) (t.take k)) i = F) := ⟨_, ⟨rfl⟩⟩
          rw [HFe.out] at hsq HR
          generalize queue[i] = a at *
          obtain ⟨atx, am⟩ := a
          obtain ⟨ax, rfl⟩ : ∃ n : Nat, atx = (n : Int) := ⟨atx.toNat, by have := HDa.out.1; dsimp only at this; omega⟩
          dsimp only at q0 q1 HDa hsq
          have HSq2 := box hsq
          have hax : ax < 12 := by have := HDa.out.2.1; omega
          have HAm : Box (1 ≤ am ∧ am ≤ 5) := ⟨HDa.out.2.2⟩
          have HV : Box (Below w.heap.size w (wr.alloc (.cells #[.int .i64 (ax : Int), .int .i64 am] 137)) ∧ LkM.WtW w D F (wr.alloc (.cells #[.int .i64 (ax : Int), .int .i64 am] 137)) ∧ Blk (wr.alloc (.cells #[.int .i64 (ax : Int), .int .i64 am] 137)) I 134 [.int .i64 it, .slice ha HL hc, .slice (some ⟨qb, qoff, none⟩) QL qc] ∧ Blk (wr.alloc (.cells #[.int .i64 (ax : Int), .int .i64 am] 137)) wr.heap.size 137 [.int .i64 (ax : Int), .int .i64 am]) := ⟨HR.out.1.alloc HR.out.1.size _, HR.out.2.1.alloc _, HR.out.2.2.alloc _, Blk.new _ _ _⟩
          clear hqrow hsq
          go_upto_region 11 with (fail)
          refine name_world (fun W => Below w.heap.size w W ∧ LkM.WtW w D F W ∧ Blk W I 134 [.int .i64 it, .slice ha HL hc, .slice (some ⟨qb, qoff, none⟩) QL qc] ∧ Blk W wr.heap.size 137 [.int .i64 (ax : Int), .int .i64 am]) HV.out ?_
          rintro W4 ⟨hw1, hw2, hw3, hw4⟩
          have HW4 : Box (Below w.heap.size w W4 ∧ LkM.WtW w D F W4 ∧ Blk W4 I 134 [.int .i64 it, .slice ha HL hc, .slice (some ⟨qb, qoff, none⟩) QL qc] ∧ Blk W4 wr.heap.size 137 [.int .i64 (ax : Int), .int .i64 am]) := ⟨hw1, hw2, hw3, hw4⟩
          have i0 := hw3.cell (i := 0) rfl
          have i1 := hw3.cell (i := 1) rfl
          have i2 := hw3.cell (i := 2) rfl
          have his := hw3.lt
          have a0 := hw4.cell (i := 0) rfl
          have a1 := hw4.cell (i := 1) rfl
          have has := hw4.lt
          clear HV HR hw1 hw2 hw3 hw4 q0 q1 hqb
          generalize wr.heap.size = A at *
          have hmo : LkM.Modes held := fun y hy => (HOkx.out.held.dom y hy).2.2
          have hwi := wish_any it held ha hc (some ⟨qb, qoff, none⟩) QL qc ⟨(ax : Int), am⟩ W4 (HHb.out W4 HW4.out.1) hmo HAm.out (by rw [HHL.out]; omega)
          rw [HHL.out] at hwi
          have HWi := box hwi
          have HMm := box (LkM.wish_mode (a := ⟨(ax : Int), am⟩) hmo HAm.out)
          clear hmo hwi
          go_wp2_with fail
          refine HWi.out.mono ?_
          rintro e W5 ⟨rfl, hb5⟩
          have HW5 : Box (Below w.heap.size w W5 ∧ LkM.WtW w D (LkM.markH ⟨(ax : Int), am⟩ (LkM.wish held ⟨(ax : Int), am⟩) F (held.take 0)) W5 ∧ Blk W5 I 134 [.int .i64 it, .slice ha HL hc, .slice (some ⟨qb, qoff, none⟩) QL qc] ∧ Blk W5 A 137 [.int .i64 (ax : Int), .int .i64 am]) := ⟨HW4.out.1.trans (hb5.mono HW4.out.1.size), HW4.out.2.1.after hb5, HW4.out.2.2.1.after hb5, HW4.out.2.2.2.after hb5⟩
          obtain ⟨m, Hm⟩ : ∃ m, Box (LkM.wish held ⟨(ax : Int), am⟩ = m) := ⟨_, ⟨rfl⟩⟩
          rw [Hm.out] at HW5 HMm HSq2 ⊢
          have j1 := HW5.out.2.2.1.cell (i := 1) rfl
          have jis := HW5.out.2.2.1.lt
          clear i0 i1 i2 his a0 a1 has HW4 HWi hb5
          go_wp2_with fail
          go_loopw [43] (fun t43 wr => ∃ j : Nat, j ≤ HL ∧ t43 = .int .i64 (j : Int) ∧ Box (Below w.heap.size w wr ∧ LkM.WtW w D (LkM.markH ⟨(ax : Int), am⟩ m F (held.take j)) wr ∧ Blk wr I 134 [.int .i64 it, .slice ha HL hc, .slice (some ⟨qb, qoff, none⟩) QL qc] ∧ Blk wr A 137 [.int .i64 (ax : Int), .int .i64 am])) (fun t43 _ => HL - (RowKit.intOf t43).toNat)
          case atStart => exact ⟨0, Nat.zero_le _, rfl, HW5⟩
          case round =>
            obtain ⟨j, hj, rfl, HR3⟩ := hrel
            clear HW5 j1 jis
            by_cases hjh : j < HL
            · have hjl : j < held.length := by rw [HHL.out]; exact hjh
              obtain ⟨hb0, hoff, rfl, hhb, hhrow⟩ := (HHb.out wr HR3.out.1).resolve_left (by intro h; rw [h] at hjl; simp at hjl)
              obtain ⟨h0, h1⟩ := hhrow j hjl
              have HDh := box (HOkx.out.held.dom _ (List.getElem_mem hjl))
              have hsh := LkM.markH_snoc ⟨(ax : Int), am⟩ m F hjl
              obtain ⟨G, HGe⟩ : ∃ G, Box (LkM.markH ⟨(ax : Int), am⟩ m F (held.take j) = G) := ⟨_, ⟨rfl⟩⟩
              rw [HGe.out] at hsh HR3
              generalize held[j] = y at *
              obtain ⟨ytx, ym⟩ := y
              obtain ⟨yx, rfl⟩ : ∃ n : Nat, ytx = (n : Int) := ⟨ytx.toNat, by have := HDh.out.1; dsimp only at this; omega⟩
              dsimp only at h0 h1 HDh hsh
              simp only [Int.toNat_natCast] at hsh
              have hyx : yx < 12 := by have := HDh.out.2.1; omega
              have hym : 1 ≤ ym ∧ ym ≤ 5 := HDh.out.2.2
              obtain ⟨u, Hu⟩ : ∃ u, Box (G ax yx = u) := ⟨_, ⟨rfl⟩⟩
              rw [Hu.out] at hsh
              have HNx := box hsh
              have HV : Box (Below w.heap.size w (wr.alloc (.cells #[.int .i64 (yx : Int), .int .i64 ym] 137)) ∧ LkM.WtW w D G (wr.alloc (.cells #[.int .i64 (yx : Int), .int .i64 ym] 137)) ∧ Blk (wr.alloc (.cells #[.int .i64 (yx : Int), .int .i64 ym] 137)) I 134 [.int .i64 it, .slice (some ⟨hb0, hoff, none⟩) HL hc, .slice (some ⟨qb, qoff, none⟩) QL qc] ∧ Blk (wr.alloc (.cells #[.int .i64 (yx : Int), .int .i64 ym] 137)) A 137 [.int .i64 (ax : Int), .int .i64 am] ∧ Blk (wr.alloc (.cells #[.int .i64 (yx : Int), .int .i64 ym] 137)) wr.heap.size 137 [.int .i64 (yx : Int), .int .i64 ym]) := ⟨HR3.out.1.alloc HR3.out.1.size _, HR3.out.2.1.alloc _, HR3.out.2.2.1.alloc _, HR3.out.2.2.2.alloc _, Blk.new _ _ _⟩
              clear hhrow hsh
              go_upto_region 15 with (fail)
              refine name_world (fun W => Below w.heap.size w W ∧ LkM.WtW w D G W ∧ Blk W I 134 [.int .i64 it, .slice (some ⟨hb0, hoff, none⟩) HL hc, .slice (some ⟨qb, qoff, none⟩) QL qc] ∧ Blk W A 137 [.int .i64 (ax : Int), .int .i64 am] ∧ Blk W wr.heap.size 137 [.int .i64 (yx : Int), .int .i64 ym]) HV.out ?_
              rintro W6 ⟨hw1, hw2, hw3, hw4, hw5⟩
              have HW6 : Box (Below w.heap.size w W6 ∧ LkM.WtW w D G W6 ∧ Blk W6 I 134 [.int .i64 it, .slice (some ⟨hb0, hoff, none⟩) HL hc, .slice (some ⟨qb, qoff, none⟩) QL qc] ∧ Blk W6 A 137 [.int .i64 (ax : Int), .int .i64 am] ∧ Blk W6 wr.heap.size 137 [.int .i64 (yx : Int), .int .i64 ym]) := ⟨hw1, hw2, hw3, hw4, hw5⟩
              have a0 := hw4.cell (i := 0) rfl
              have has := hw4.lt
              have y0 := hw5.cell (i := 0) rfl
              have y1 := hw5.cell (i := 1) rfl
              have yls := hw5.lt
              have m0 := hw2.cell hax hyx
              have mz := hw2.mat.frozen (ax * 12 + yx)
              have mls := hw2.mat.lt
              rw [Hu.out] at m0
              clear HV HR3 hw1 hw2 hw3 hw4 hw5 h0 h1 hhb
              generalize wr.heap.size = Y at *
              have HFin : Box (∀ r : Bool, (u || LkM.bars (ax : Int) m ⟨(yx : Int), ym⟩) = r → Box (Below w.heap.size w (W6.setCell ⟨D, ax * 12 + yx, none⟩ (.bool r)).drew ∧ LkM.WtW w D (LkM.markH ⟨(ax : Int), am⟩ m F (held.take (j + 1))) (W6.setCell ⟨D, ax * 12 + yx, none⟩ (.bool r)).drew ∧ Blk (W6.setCell ⟨D, ax * 12 + yx, none⟩ (.bool r)).drew I 134 [.int .i64 it, .slice (some ⟨hb0, hoff, none⟩) HL hc, .slice (some ⟨qb, qoff, none⟩) QL qc] ∧ Blk (W6.setCell ⟨D, ax * 12 + yx, none⟩ (.bool r)).drew A 137 [.int .i64 (ax : Int), .int .i64 am])) := ⟨fun r hr => by
                refine ⟨(HW6.out.1.setCell (by show w.heap.size ≤ D; exact HW6.out.2.1.hD) _).drew, ?_, HW6.out.2.2.1.other (by have := HW6.out.2.2.1.ne HW6.out.2.1.mat (by decide); exact this) _, HW6.out.2.2.2.1.other (by have := HW6.out.2.2.2.1.ne HW6.out.2.1.mat (by decide); exact this) _⟩
                rw [HNx.out, hr]
                exact (HW6.out.2.1.set hyx r).drew⟩
              cases u with
              | true =>
                have HE3 := box (HFin.out true rfl).out
                clear HFin
                go_region
                go_wp2_with fail
                go_roundw
                case rel => exact ⟨j + 1, by omega, by go_num, HE3⟩
                case measure => simp [RowKit.intOf]; omega
              | false =>
                cases d0 : ((yx : Int) != (ax : Int)) with
                | false =>
                  have HE3 := box (HFin.out false (by unfold LkM.bars; rw [d0]; rfl)).out
                  clear HFin
                  go_region
                  go_wp2_with fail
                  go_roundw
                  case rel => exact ⟨j + 1, by omega, by go_num, HE3⟩
                  case measure => simp [RowKit.intOf]; omega
                | true =>
                  have HB : Box (∀ r, (!LockM.fitB m ym) = r → (false || LkM.bars (ax : Int) m ⟨(yx : Int), ym⟩) = r) := ⟨fun r h => by unfold LkM.bars; dsimp only; rw [d0]; simpa using h⟩
                  have hm5 := HMm.out
                  clear HMm
                  have haxi : (ax : Int) < 12 := by omega
                  have hyxi : (yx : Int) < 12 := by omega
                  have hfz := fun wx => (fits_in _ wx hm5).mono (fun e w' ⟨h1, h2⟩ => (⟨h1, h2.symm⟩ : _ ∧ w' = wx))
                  have hz0 : 0 ≤ LockM.fitsZ m ∧ LockM.fitsZ m ≤ 30 := by unfold LockM.fitsZ; repeat (first | omega | split)
                  have HE3 := box (HFin.out _ (HB.out _ (LkM.fit_bits hm5 hym).symm)).out
                  clear HFin HB
                  generalize LockM.fitsZ m = z at *
                  obtain ⟨hz1, hz2⟩ := hz0
                  obtain ⟨hy1, hy2⟩ := hym
                  have HF := box hfz
                  clear hfz hm5
                  refine wp_region_still_tail 29 (by kernel_rfl) (by kernel_rfl) ?_
                  simp only [List.take_succ_cons, List.take_zero, List.drop_succ_cons, List.drop_zero]
                  repeat still_step
                  still_call (HF.out _)
                  repeat still_step
                  refine wpStill_nil ?_
                  change wpList _ _ _ _ _ W6.drew
                  go_wp2_with fail
                  go_roundw
                  case rel => exact ⟨j + 1, by omega, by go_num, HE3⟩
                  case measure => simp [RowKit.intOf]; omega
            · obtain rfl : HL = j := by omega
              have HW7 : Box (Below w.heap.size w wr ∧ LkM.WtW w D (LkM.markV ⟨(ax : Int), am⟩ (LkM.markH ⟨(ax : Int), am⟩ m F held) (queue.take 0)) wr ∧ Blk wr I 134 [.int .i64 it, .slice ha HL hc, .slice (some ⟨qb, qoff, none⟩) QL qc] ∧ Blk wr A 137 [.int .i64 (ax : Int), .int .i64 am]) := ⟨by
                refine ⟨HR3.out.1, ?_, HR3.out.2.2⟩
                have := HR3.out.2.1
                rwa [List.take_of_length_le (by rw [HHL.out]; exact Nat.le_refl _)] at this⟩
              have i2 := HW7.out.2.2.1.cell (i := 2) rfl
              have his := HW7.out.2.2.1.lt
              obtain ⟨F3, HF3⟩ : ∃ f, Box (LkM.markH ⟨(ax : Int), am⟩ m F held = f) := ⟨_, ⟨rfl⟩⟩
              rw [HF3.out] at HW7 HSq2
              have hiqc : i ≤ qc := by omega
              have d43 : decide (HL < HL) = false := by simp
              clear HR3
              go_wp2_with fail
              clear d43
              go_loopw [82] (fun t82 wr => ∃ v : Nat, v ≤ i ∧ t82 = .int .i64 (v : Int) ∧ Box (Below w.heap.size w wr ∧ LkM.WtW w D (LkM.markV ⟨(ax : Int), am⟩ F3 (queue.take v)) wr ∧ Blk wr I 134 [.int .i64 it, .slice ha HL hc, .slice (some ⟨qb, qoff, none⟩) QL qc] ∧ Blk wr A 137 [.int .i64 (ax : Int), .int .i64 am])) (fun t82 _ => i - (RowKit.intOf t82).toNat)
              case atStart => exact ⟨0, Nat.zero_le _, rfl, HW7⟩
              case round =>
                obtain ⟨v, hv, rfl, HR4⟩ := hrel
                clear HW7 i2 his
                by_cases hvi : v < i
                · have hvl : v < queue.length := by omega
                  obtain ⟨qb', qoff', hqa, hqb, hqrow⟩ := (HQb.out wr HR4.out.1).resolve_left (by intro h; rw [h] at hvl; simp at hvl)
                  injection hqa with hqa
                  injection hqa with hqa1 hqa2 hqa3
                  subst hqa1 hqa2
                  clear hqa3
                  obtain ⟨h0, h1⟩ := hqrow v hvl
                  have HDh := box (HTk.out v hvl hvi)
                  have hsh := LkM.markV_snoc ⟨(ax : Int), am⟩ F3 hvl
                  obtain ⟨G, HGe⟩ : ∃ G, Box (LkM.markV ⟨(ax : Int), am⟩ F3 (queue.take v) = G) := ⟨_, ⟨rfl⟩⟩
                  rw [HGe.out] at hsh HR4
                  generalize queue[v] = y at *
                  obtain ⟨ytx, ym⟩ := y
                  obtain ⟨yx, rfl⟩ : ∃ n : Nat, ytx = (n : Int) := ⟨ytx.toNat, by have := HDh.out.1; dsimp only at this; omega⟩
                  dsimp only at h0 h1 HDh hsh
                  simp only [Int.toNat_natCast] at hsh
                  have hyx : yx < 12 := by have := HDh.out.2; omega
                  have haxi : (ax : Int) < 12 := by omega
                  have hyxi : (yx : Int) < 12 := by omega
                  have HNx := box hsh
                  have HV : Box (Below w.heap.size w (wr.alloc (.cells #[.int .i64 (yx : Int), .int .i64 ym] 137)) ∧ LkM.WtW w D G (wr.alloc (.cells #[.int .i64 (yx : Int), .int .i64 ym] 137)) ∧ Blk (wr.alloc (.cells #[.int .i64 (yx : Int), .int .i64 ym] 137)) I 134 [.int .i64 it, .slice ha HL hc, .slice (some ⟨qb, qoff, none⟩) QL qc] ∧ Blk (wr.alloc (.cells #[.int .i64 (yx : Int), .int .i64 ym] 137)) A 137 [.int .i64 (ax : Int), .int .i64 am] ∧ Blk (wr.alloc (.cells #[.int .i64 (yx : Int), .int .i64 ym] 137)) wr.heap.size 137 [.int .i64 (yx : Int), .int .i64 ym]) := ⟨HR4.out.1.alloc HR4.out.1.size _, HR4.out.2.1.alloc _, HR4.out.2.2.1.alloc _, HR4.out.2.2.2.alloc _, Blk.new _ _ _⟩
                  clear hqrow hsh
                  go_upto_region 20 with (fail)
                  refine name_world (fun W => Below w.heap.size w W ∧ LkM.WtW w D G W ∧ Blk W I 134 [.int .i64 it, .slice ha HL hc, .slice (some ⟨qb, qoff, none⟩) QL qc] ∧ Blk W A 137 [.int .i64 (ax : Int), .int .i64 am] ∧ Blk W wr.heap.size 137 [.int .i64 (yx : Int), .int .i64 ym]) HV.out ?_
                  rintro W6 ⟨hw1, hw2, hw3, hw4, hw5⟩
                  have HW6 : Box (Below w.heap.size w W6 ∧ LkM.WtW w D G W6 ∧ Blk W6 I 134 [.int .i64 it, .slice ha HL hc, .slice (some ⟨qb, qoff, none⟩) QL qc] ∧ Blk W6 A 137 [.int .i64 (ax : Int), .int .i64 am] ∧ Blk W6 wr.heap.size 137 [.int .i64 (yx : Int), .int .i64 ym]) := ⟨hw1, hw2, hw3, hw4, hw5⟩
                  have a0 := hw4.cell (i := 0) rfl
                  have has := hw4.lt
                  have y0 := hw5.cell (i := 0) rfl
                  have yls := hw5.lt
                  have m0 := hw2.cell hax hyx
                  have mz := hw2.mat.frozen (ax * 12 + yx)
                  have mls := hw2.mat.lt
                  clear HV HR4 hw1 hw2 hw3 hw4 hw5 h0 h1 hqb
                  generalize wr.heap.size = Y at *
                  have HE3 : Box (Below w.heap.size w (W6.setCell ⟨D, ax * 12 + yx, none⟩ (.bool true)).drew ∧ LkM.WtW w D (LkM.markV ⟨(ax : Int), am⟩ F3 (queue.take (v + 1))) (W6.setCell ⟨D, ax * 12 + yx, none⟩ (.bool true)).drew ∧ Blk (W6.setCell ⟨D, ax * 12 + yx, none⟩ (.bool true)).drew I 134 [.int .i64 it, .slice ha HL hc, .slice (some ⟨qb, qoff, none⟩) QL qc] ∧ Blk (W6.setCell ⟨D, ax * 12 + yx, none⟩ (.bool true)).drew A 137 [.int .i64 (ax : Int), .int .i64 am]) := ⟨by
                    refine ⟨(HW6.out.1.setCell (by show w.heap.size ≤ D; exact HW6.out.2.1.hD) _).drew, ?_, HW6.out.2.2.1.other (by have := HW6.out.2.2.1.ne HW6.out.2.1.mat (by decide); exact this) _, HW6.out.2.2.2.1.other (by have := HW6.out.2.2.2.1.ne HW6.out.2.1.mat (by decide); exact this) _⟩
                    rw [HNx.out]
                    exact (HW6.out.2.1.set hyx true).drew⟩
                  clear HW6 HNx
                  go_region
                  all_goals
                    go_wp2_with fail
                    go_roundw
                    case rel => exact ⟨v + 1, by omega, by go_num, HE3⟩
                    case measure => simp [RowKit.intOf]; omega
                · obtain rfl : v = i := by omega
                  have HE4 : Box (Below w.heap.size w wr ∧ LkM.WtW w D (LkM.markQ ⟨it, held, queue⟩ (LkM.markT (fun _ _ => false) (t.take k)) (v + 1)) wr ∧ Blk wr I 134 [.int .i64 it, .slice ha HL hc, .slice (some ⟨qb, qoff, none⟩) QL qc]) := ⟨HR4.out.1, by rw [HSq2.out]; exact HR4.out.2.1, HR4.out.2.2.1⟩
                  have d82 : decide (v < v) = false := by simp
                  go_wp2_with fail
                  go_roundw
                  case rel => exact ⟨v + 1, by omega, by go_num, HE4⟩
                  case measure => simp [RowKit.intOf]; omega
        · obtain rfl : i = QL := by omega
          have HNx : Box (LkM.WtW w D (LkM.markT (fun _ _ => false) (t.take (k + 1))) wr) := ⟨by rw [HSn.out]; exact HR.out.2.1⟩
          have d9 : decide (i < i) = false := by simp
          go_wp2_with fail
          go_roundw
          case rel => exact ⟨k + 1, by omega, by go_num, HNx⟩
          case measure => simp [RowKit.intOf]; omega
    · obtain rfl : k = N := by omega
      have HF : Box (LkM.WtW w D (LkM.markT (fun _ _ => false) t) wr) := ⟨by
        have := HE.out
        rwa [List.take_of_length_le (by rw [HN.out]; exact Nat.le_refl _)] at this⟩
      obtain ⟨f, Hf⟩ : ∃ f, Box (LkM.markT (fun _ _ => false) t = f) := ⟨_, ⟨rfl⟩⟩
      have HFin : Box (∀ W v, Below w.heap.size w W → W.ownsRow w.heap.size 180 2 v (LkM.edgesOf f 12).length (egVals (LkM.edgesOf f 12)) → Post (.returned (.tuple #[v, .int .i64 0])) W) := ⟨fun W v h1 h2 => by
        rw [← HPost.out]
        refine ⟨h1, Or.inr ⟨HC.out, v, rfl, ?_⟩⟩
        unfold LkM.waits
        rw [Hf.out]
        exact h2⟩
      rw [Hf.out] at HF
      clear HE
      go_wp2_with fail
      go_loopw [15, 95] (fun t15 t95 wr => ∃ (a : Nat) (v : Value), a ≤ 12 ∧ v = t15 ∧ t95 = .int .i64 (a : Int) ∧ Box (LkM.WtW w D f wr ∧ wr.ownsRow w.heap.size 180 2 v (LkM.edgesOf f a).length (egVals (LkM.edgesOf f a)))) (fun _ t95 _ => 12 - (RowKit.intOf t95).toNat)
      case atStart => exact ⟨0, _, by omega, rfl, rfl, ⟨HF.out, World.ownsRow_nil _ _ _ _⟩⟩
      case round =>
        obtain ⟨a, v, ha, rfl, rfl, HR⟩ := hrel
        clear HF
        by_cases ha12 : a < 12
        · have hai : (a : Int) < 12 := by omega
          have HS : Box (LkM.edgesOf f a ++ LkM.edgesTo f a 0 = LkM.edgesOf f a) := ⟨by simp [LkM.edgesTo]⟩
          have HS2 := box (LkM.edgesOf_succ f a)
          have hel := LkM.edgesOf_len f a
          go_wp2_with fail
          go_loopw [15, 98] (fun t15 t98 wr => ∃ (b : Nat) (v : Value), b ≤ 12 ∧ v = t15 ∧ t98 = .int .i64 (b : Int) ∧ Box (LkM.WtW w D f wr ∧ wr.ownsRow w.heap.size 180 2 v (LkM.edgesOf f a ++ LkM.edgesTo f a b).length (egVals (LkM.edgesOf f a ++ LkM.edgesTo f a b)))) (fun _ t98 _ => 12 - (RowKit.intOf t98).toNat)
          case atStart => exact ⟨0, _, by omega, rfl, rfl, ⟨HR.out.1, by rw [HS.out]; exact HR.out.2⟩⟩
          case round =>
            obtain ⟨b, v2, hb, rfl, rfl, HR2⟩ := hrel
            clear HR
            by_cases hb12 : b < 12
            · have hbi : (b : Int) < 12 := by omega
              have hmi : a * 12 + b < 144 := by omega
              have m0 := HR2.out.1.cell ha12 hb12
              have HT2 := box (LkM.edgesTo_succ f a b)
              have hel2 := LkM.edgesTo_len f a b
              obtain ⟨u, Hu⟩ : ∃ u, Box (f a b = u) := ⟨_, ⟨rfl⟩⟩
              rw [Hu.out] at m0 HT2
              have hlen2 : (LkM.edgesOf f a ++ LkM.edgesTo f a b).length ≤ 160 := by rw [List.length_append]; omega
              have HE2 : Box (LkM.edgesOf f a ++ LkM.edgesTo f a (b + 1) = (LkM.edgesOf f a ++ LkM.edgesTo f a b) ++ if u = true then [⟨(a : Int), (b : Int)⟩] else []) := ⟨by rw [HT2.out, List.append_assoc]⟩
              generalize LkM.edgesOf f a ++ LkM.edgesTo f a b = ms at *
              clear hel hel2 HS HS2 HT2
              have hbs := HR2.out.1.below.size
              cases u with
              | false =>
                go_wp2_with fail
                go_roundw
                case rel =>
                  refine ⟨b + 1, _, by omega, rfl, by go_num, ⟨HR2.out.1, ?_⟩⟩
                  rw [HE2.out, if_neg (by simp), List.append_nil]
                  exact HR2.out.2
                case measure => simp [intOf]; omega
              | true =>
                have hown2 := (HR2.out.2).alloc (.cells #[.int .i64 (a : Int), .int .i64 (b : Int)] 180)
                have HD := box (HR2.out.1.alloc (.cells #[.int .i64 (a : Int), .int .i64 (b : Int)] 180))
                have HOw := box hown2
                go_wp2_with (at_builtin; go_must (refine wpList_append_own _ rfl _ _ 148 rfl w.heap.size 180 i0 _ 2 16 Tryz.underlying148 hi0 hz0 hz1 hz2 rfl (by decide) _ _ _ rfl hown2 ⟨wr.heap.size, 0, none⟩ 1 1 [.int .i64 (a : Int), .int .i64 (b : Int)] rfl rfl (cells_new wr [.int .i64 (a : Int), .int .i64 (b : Int)] 180) (by simp [Value.oneCell']) (by unfold maxLen; omega) (by omega) (by simp; omega) ?_))
                intro v' w9 hown3 hgrow _
                have HE9 : Box (LkM.WtW w D f w9) := ⟨HD.out.grown HOw.out (by decide) hgrow⟩
                have HO := box hown3
                clear hown3 hgrow hown2 m0
                go_wp2_with fail
                go_roundw
                case rel =>
                  refine ⟨b + 1, _, by omega, rfl, by go_num, ⟨HE9.out, ?_⟩⟩
                  rw [HE2.out, if_pos trivial, egVals_append, List.length_append]
                  exact HO.out
                case measure => simp [intOf]; omega
            · obtain rfl : b = 12 := by omega
              go_wp2_with fail
              go_roundw
              case rel =>
                refine ⟨a + 1, _, by omega, rfl, by go_num, ⟨HR2.out.1, ?_⟩⟩
                rw [HS2.out]
                exact HR2.out.2
              case measure => simp [intOf]; omega
        · obtain rfl : a = 12 := by omega
          have HEnd := box (HFin.out wr v HR.out.1.below HR.out.2)
          go_wp2_with fail
          exact HEnd.out
end Go.Proofs.YtnnkejolfhhmlaaGreat
