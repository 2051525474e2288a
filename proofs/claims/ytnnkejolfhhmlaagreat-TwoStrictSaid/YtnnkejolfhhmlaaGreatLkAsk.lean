/- lock.Ask: what it computes. -/
import Derived.Test.YtnnkejolfhhmlaaGreatPutR
import Derived.Test.YtnnkejolfhhmlaaGreatLkAskQ
import Derived.Test.YtnnkejolfhhmlaaGreatLkCopy
import Derived.Test.YtnnkejolfhhmlaaGreatLkIns
import Derived.Deep.AppendLies
namespace Go.Proofs.YtnnkejolfhhmlaaGreat
open Go.RowKit Go.Lib

set_option maxRecDepth 20000 in
set_option maxHeartbeats 2000000 in
theorem ask_f1 (W : World) (x : LkM) (tx : Int) (Tb : Nat) (hT : W.cell? ⟨Tb, 0, none⟩ = some (.int .i64 tx)) (hTb : Tb < W.heap.size) :
    Calls Tryz.prog 69 #[.agg #[.int .i64 x.tx, .int .i64 x.mode], .pointer (some ⟨Tb, 0, none⟩)] W fun e w' => e = .returned (.bool (x.tx == tx)) ∧ Below W.heap.size W w' := by
  obtain ⟨xt, xm⟩ := x
  go_enter Tryz.func69, Tryz.ntmps69
  go_wp2_with fail
  go_ret
  exact ⟨rfl, (Below.refl _ _).alloc (Nat.le_refl _) _⟩
set_option maxRecDepth 20000 in
set_option maxHeartbeats 2000000 in
theorem ask_f3 (W : World) (x : LkM) (tx : Int) (Tb : Nat) (hT : W.cell? ⟨Tb, 0, none⟩ = some (.int .i64 tx)) (hTb : Tb < W.heap.size) :
    Calls Tryz.prog 74 #[.agg #[.int .i64 x.tx, .int .i64 x.mode], .pointer (some ⟨Tb, 0, none⟩)] W fun e w' => e = .returned (.bool (x.tx == tx)) ∧ Below W.heap.size W w' := by
  obtain ⟨xt, xm⟩ := x
  go_enter Tryz.func74, Tryz.ntmps74
  go_wp2_with fail
  go_ret
  exact ⟨rfl, (Below.refl _ _).alloc (Nat.le_refl _) _⟩
set_option maxRecDepth 20000 in
set_option maxHeartbeats 2000000 in
theorem ask_f4 (W : World) (x : LkM) (queue : List LkM) (Xb Nb g o n qc : Nat) (qa : Option Addr) (hX : W.cell? ⟨Xb, 0, none⟩ = some (.pointer (some ⟨g, o, none⟩))) (hXb : Xb < W.heap.size) (hN : W.cell? ⟨Nb, 0, none⟩ = some (.int .i64 (n : Int))) (hNb : Nb < W.heap.size)
    (hg : W.cell? ⟨g, o + 2, none⟩ = some (.slice qa queue.length qc)) (hgs : g < W.heap.size) (hq : LksAt W qa queue) (hn : n < queue.length) :
    Calls Tryz.prog 77 #[.agg #[.int .i64 x.tx, .int .i64 x.mode], .pointer (some ⟨Xb, 0, none⟩), .pointer (some ⟨Nb, 0, none⟩)] W fun e w' => e = .returned (.bool (x.tx == queue[n].tx)) ∧ Below W.heap.size W w' := by
  obtain ⟨xt, xm⟩ := x
  obtain ⟨b, off, rfl, hb, hrow⟩ := hq.resolve_left (by intro h; rw [h] at hn; simp at hn)
  obtain ⟨c0, c1⟩ := hrow n hn
  generalize queue[n] = y at *
  obtain ⟨yt, ym⟩ := y
  dsimp only at c0 c1 ⊢
  clear hrow
  have hn2 : (n : Int) < (queue.length : Int) := by omega
  go_enter Tryz.func77, Tryz.ntmps77
  go_wp2_with fail
  go_quiet (fail)
  go_wp2_with fail
  go_ret
  exact ⟨rfl, ((Below.refl _ _).alloc (Nat.le_refl _) _).trans ⟨rfl, rfl, rfl, Nat.le_refl _, fun _ _ => rfl⟩⟩
theorem LkM.liVals_one {w : World} {base : Nat} {tv : Value} {t : List LiM} {v : Nat → Value} (h : LkM.OwnT w base tv t v) (h50 : t.length ≤ 50) : ∀ u ∈ LkM.liVals t v, u.oneCell' = true := by
  intro u hu
  unfold LkM.liVals at hu
  rw [List.mem_flatMap] at hu
  obtain ⟨k, hk, hu⟩ := hu
  have hk := List.mem_range.1 hk
  obtain ⟨ha, hc, h1, _⟩ := LksIn.own (h.fam.own (2 * k) (by omega))
  obtain ⟨qa, qc, h2, _⟩ := LksIn.own (h.fam.own (2 * k + 1) (by omega))
  simp only [List.mem_cons, List.not_mem_nil, or_false] at hu
  rcases hu with rfl | rfl | rfl
  · rfl
  · rw [h1]; rfl
  · rw [h2]; rfl
theorem LkM.rowIn_one {w : World} {lo b : Nat} {tx mode : Int} (h : Blk w b 137 [.int .i64 tx, .int .i64 mode]) (hlo : lo ≤ b) : LkM.RowIn w lo (.slice (some ⟨b, 0, none⟩) 1 1) [⟨tx, mode⟩] :=
  ⟨some ⟨b, 0, none⟩, 1, rfl, Or.inr ⟨b, 0, rfl, hlo, h.lt, fun k hk => by
    simp only [List.length_cons, List.length_nil] at hk
    obtain rfl : k = 0 := by omega
    exact ⟨h.cell rfl, h.cell rfl⟩⟩, Nat.le_refl _, fun h => by cases h⟩
/-- What Ask answers. -/
def LkM.AskPost (t : List LiM) (tx item mode : Int) (w : World) (e : Ending) (w' : World) : Prop :=
  Below w.heap.size w w' ∧ ((LkM.askE t tx item mode ≠ 0 ∧ e = .returned (.tuple #[.slice none 0 0, .bool false, .int .i64 (LkM.askE t tx item mode)])) ∨
    (LkM.askE t tx item mode = 0 ∧ ∃ ao' cap', e = .returned (.tuple #[.slice ao' (LkM.askIn item ⟨tx, mode⟩ t).1.length cap', .bool (LkM.askIn item ⟨tx, mode⟩ t).2, .int .i64 0]) ∧ LisIn w' w.heap.size ao' (LkM.askIn item ⟨tx, mode⟩ t).1))

set_option maxRecDepth 20000 in
set_option maxHeartbeats 32000000 in
theorem ask_any (t : List LiM) (ao : Option Addr) (cap lo : Nat) (tx item mode : Int) (w : World) (h : LisIn w lo ao t) (hs : LkM.Small t) :
    Calls Tryz.prog 46 #[.slice ao t.length cap, .int .i64 tx, .int .i64 item, .int .i64 mode] w (LkM.AskPost t tx item mode w) := by
  have H := box h; have HSm := box hs
  clear h hs
  obtain ⟨i0, hi0, hz0, hz1, hz2⟩ := info_parts Tryz.infoLk
  obtain ⟨Post, HPost⟩ : ∃ P, Box (LkM.AskPost t tx item mode w = P) := ⟨_, ⟨rfl⟩⟩
  rw [HPost.out]
  have HErr : Box (∀ c : Int, LkM.askE t tx item mode = c → c ≠ 0 → ∀ w', Below w.heap.size w w' → Post (.returned (.tuple #[.slice none 0 0, .bool false, .int .i64 c])) w') := ⟨fun c h1 h2 w' hb => by
    rw [← HPost.out]
    exact ⟨hb, Or.inl ⟨by rw [h1]; exact h2, by rw [h1]⟩⟩⟩
  have HEd : Box (LkM.askE t tx item mode = if LkM.check t ≠ 0 then LkM.check t else if tx < 0 ∨ 12 ≤ tx ∨ item < 0 ∨ 20 ≤ item ∨ ¬ (1 ≤ mode ∧ mode ≤ 5) then 1 else if LkM.waiting t tx = true then 10 else 0) := ⟨rfl⟩
  obtain ⟨N, HN⟩ : ∃ N, Box (t.length = N) := ⟨_, ⟨rfl⟩⟩
  obtain ⟨Tb, HTb⟩ : ∃ x, Box (w.heap.size = x) := ⟨_, ⟨rfl⟩⟩
  have HS1 : Box (Below w.heap.size w (w.alloc (.cells #[.int .i64 tx] 3)) ∧ Blk (w.alloc (.cells #[.int .i64 tx] 3)) w.heap.size 3 [.int .i64 tx]) := ⟨(Below.refl _ _).alloc (Nat.le_refl _) _, Blk.new _ _ _⟩
  have HCk := box (lockCheck_any t ao cap lo (w.alloc (.cells #[.int .i64 tx] 3)) (H.out.below HS1.out.1 (Nat.le_refl _)) HSm.out)
  obtain ⟨W1, HW1⟩ : ∃ W, Box (w.alloc (.cells #[.int .i64 tx] 3) = W) := ⟨_, ⟨rfl⟩⟩
  rw [HTb.out, HW1.out] at HS1
  rw [HW1.out, HN.out] at HCk
  rw [HTb.out] at HErr
  rw [HN.out]
  go_enter Tryz.func46, Tryz.ntmps46
  go_wp2_with fail
  rw [HW1.out, HTb.out]
  refine HCk.out.mono ?_
  rintro e W2 ⟨rfl, hb2⟩
  have HS2 : Box (Below Tb w W2 ∧ Blk W2 Tb 3 [.int .i64 tx]) := ⟨HS1.out.1.trans (hb2.mono (Nat.le_of_lt HS1.out.2.lt)), HS1.out.2.after hb2⟩
  clear hb2 HCk HS1 HW1
  obtain ⟨c, HC⟩ : ∃ c, Box (LkM.check t = c) := ⟨_, ⟨rfl⟩⟩
  rw [HC.out] at HEd ⊢
  by_cases h0 : c = 0
  case neg =>
    have g1 : (c == 0) = false := by simp [h0]
    have g2 : (c != 0) = true := by simp [h0]
    have HE := box (HErr.out c (by rw [HEd.out, if_pos h0]) h0 _ HS2.out.1)
    clear h0
    go_wp2_with fail
    exact HE.out
  subst h0
  have HGd := box (LkM.check_iff.1 HC.out)
  have hN20 : N ≤ 20 := by have := HGd.out.len; have := HN.out; omega
  have t0 := HS2.out.2.cell (i := 0) rfl
  have hTs := HS2.out.2.lt
  by_cases hbad : tx < 0 ∨ 12 ≤ tx ∨ item < 0 ∨ 20 ≤ item ∨ ¬ (1 ≤ mode ∧ mode ≤ 5)
  · have HE := box (HErr.out 1 (by rw [HEd.out, if_neg (by simp), if_pos hbad]) (by simp) _ HS2.out.1)
    clear HEd
    by_cases e1 : tx < 0
    · have d1 : decide (tx < 0) = true := decide_eq_true e1
      clear e1 hbad
      go_wp2_with fail
      exact HE.out
    have d1 : decide (tx < 0) = false := decide_eq_false e1
    by_cases e2 : (12 : Int) ≤ tx
    · have d2 : decide ((12 : Int) ≤ tx) = true := decide_eq_true e2
      clear e1 e2 hbad
      go_wp2_with fail
      exact HE.out
    have d2 : decide ((12 : Int) ≤ tx) = false := decide_eq_false e2
    by_cases e3 : item < 0
    · have d3 : decide (item < 0) = true := decide_eq_true e3
      clear e1 e2 e3 hbad
      go_wp2_with fail
      exact HE.out
    have d3 : decide (item < 0) = false := decide_eq_false e3
    by_cases e4 : (20 : Int) ≤ item
    · have d4 : decide ((20 : Int) ≤ item) = true := decide_eq_true e4
      clear e1 e2 e3 e4 hbad
      go_wp2_with fail
      exact HE.out
    have d4 : decide ((20 : Int) ≤ item) = false := decide_eq_false e4
    have HMd : Box (¬ (1 ≤ mode ∧ mode ≤ 5)) := ⟨by omega⟩
    clear e1 e2 e3 e4 hbad
    go_wp2_with fail
    refine (isMode_no mode _ HMd.out).mono ?_
    rintro e w' ⟨rfl, rfl⟩
    go_wp2_with fail
    exact HE.out
  rw [if_neg (by simp), if_neg hbad] at HEd
  have d1 : decide (tx < 0) = false := decide_eq_false (by omega)
  have d2 : decide ((12 : Int) ≤ tx) = false := decide_eq_false (by omega)
  have d3 : decide (item < 0) = false := decide_eq_false (by omega)
  have d4 : decide ((20 : Int) ≤ item) = false := decide_eq_false (by omega)
  have HDom : Box (LkM.Dom ⟨tx, mode⟩ ∧ 0 ≤ item ∧ item < 20) := ⟨⟨by show 0 ≤ tx; omega, by show tx < 12; omega, by show 1 ≤ mode; omega, by show mode ≤ 5; omega⟩, by omega, by omega⟩
  have HMd : Box (1 ≤ mode ∧ mode ≤ 5) := ⟨by omega⟩
  clear hbad
  go_wp2_with fail
  refine (isMode_yes mode _ HMd.out).mono ?_
  rintro e w' ⟨rfl, rfl⟩
  go_wp2_with fail
  go_loopw [47] (fun t47 wr => ∃ k : Nat, k ≤ N ∧ t47 = .int .i64 (k : Int) ∧ Box ((∀ j (hj : j < t.length), j < k → LkM.has t[j].queue tx = false) ∧ Below Tb w wr ∧ Blk wr Tb 3 [.int .i64 tx])) (fun t47 _ => N - (RowKit.intOf t47).toNat)
  case atStart => exact ⟨0, Nat.zero_le _, rfl, ⟨fun j _ h => by omega, HS2.out⟩⟩
  case round =>
    obtain ⟨k, hk, rfl, HR⟩ := hrel
    clear HS2 t0 hTs d1 d2 d3 d4
    have t0 := HR.out.2.2.cell (i := 0) rfl
    have hTs := HR.out.2.2.lt
    by_cases hlt : k < N
    · have hkl : k < t.length := by rw [HN.out]; exact hlt
      obtain ⟨b, off, rfl, _, hb, hrow⟩ := (H.out.below HR.out.2.1 (by rw [HTb.out]; exact Nat.le_refl _)).resolve_left (by intro h; rw [h] at hkl; simp at hkl)
      obtain ⟨ha, hc, qa, qc, hli⟩ := hrow k hkl
      have hl := HSm.out.2 _ (List.getElem_mem hkl)
      have HHit : Box (LkM.has t[k].queue tx = true → LkM.askE t tx item mode = 10) := ⟨fun e => by
        rw [HEd.out, if_pos (by unfold LkM.waiting; exact List.any_eq_true.2 ⟨_, List.getElem_mem hkl, e⟩)]⟩
      have HMiss : Box (LkM.has t[k].queue tx = false → ∀ j (hj : j < t.length), j < k + 1 → LkM.has t[j].queue tx = false) := ⟨fun e j hj hjk => by
        by_cases e2 : j = k
        · subst e2; exact e
        · exact HR.out.1 j hj (by omega)⟩
      generalize t[k] = x at *
      obtain ⟨it, held, queue⟩ := x
      obtain ⟨c0, c1, c2, hH, hQ, _, _, _, _⟩ := hli
      dsimp only at c0 c1 c2 hQ hl HHit HMiss
      have hwI : Below wr.heap.size wr (wr.alloc (.cells #[.int .i64 it, .slice ha held.length hc, .slice qa queue.length qc] 134)) := (Below.refl _ _).alloc (Nat.le_refl _) _
      have HW : Box (Below Tb w (wr.alloc (.cells #[.int .i64 it, .slice ha held.length hc, .slice qa queue.length qc] 134)) ∧ Blk (wr.alloc (.cells #[.int .i64 it, .slice ha held.length hc, .slice qa queue.length qc] 134)) Tb 3 [.int .i64 tx]) := ⟨HR.out.2.1.alloc (by omega) _, HR.out.2.2.alloc _⟩
      have HCf := box (containsFunc_lks queue qa qc 69 #[.pointer (some ⟨Tb, 0, none⟩)] (fun h => h.tx == tx) (wr.alloc (.cells #[.int .i64 it, .slice ha held.length hc, .slice qa queue.length qc] 134)) (hQ.at.below hwI (Nat.le_refl _)) (by omega) (fun W hW o _ => ask_f1 W o tx Tb ((HW.out.2.after hW).cell rfl) (HW.out.2.after hW).lt) (enters_fn Tryz.func69 (by kernel_rfl) rfl))
      have hhas : (queue.any fun h => h.tx == tx) = LkM.has queue tx := rfl
      rw [hhas] at HCf
      generalize LkM.has queue tx = u at *
      generalize held.length = HL at *
      generalize queue.length = QL at *
      clear hrow hhas hwI hH hQ hl
      go_wp2_with fail
      refine HCf.out.mono ?_
      rintro e w5 ⟨rfl, hb5⟩
      have HS5 : Box (Below Tb w w5 ∧ Blk w5 Tb 3 [.int .i64 tx]) := ⟨HW.out.1.trans (hb5.mono (Nat.le_of_lt HW.out.2.lt)), HW.out.2.after hb5⟩
      clear hb5 HW HCf
      cases u with
      | true =>
        have HE := box (HErr.out 10 (HHit.out rfl) (by simp) _ HS5.out.1)
        go_wp2_with fail
        exact HE.out
      | false =>
        have HNx := box (HMiss.out rfl)
        go_wp2_with fail
        go_roundw
        case rel => exact ⟨k + 1, by omega, by go_num, ⟨HNx.out, HS5.out⟩⟩
        case measure => simp [RowKit.intOf]; omega
    · obtain rfl : N = k := by omega
      have HW : Box (LkM.waiting t tx = false) := ⟨by
        unfold LkM.waiting
        rw [List.any_eq_false]
        intro x hx
        obtain ⟨j, hj, rfl⟩ := List.mem_iff_getElem.1 hx
        rw [HR.out.1 j hj (by rw [← HN.out]; exact hj)]; simp⟩
      have HE0 : Box (LkM.askE t tx item mode = 0) := ⟨by rw [HEd.out, if_neg (by rw [HW.out]; simp)]⟩
      have HCp := box (copied_any t ao cap lo wr (H.out.below HR.out.2.1 (by rw [HTb.out]; exact Nat.le_refl _)) (by have := HN.out; omega) (fun x hx => ⟨LkM.okl_len (HGd.out.ok x hx).held, LkM.okl_len (HGd.out.ok x hx).queue⟩))
      rw [HN.out] at HCp
      clear HEd HErr HW
      go_wp2_with fail
      refine HCp.out.mono ?_
      rintro e W3 ⟨tv, v, rfl, hOT, hb3⟩
      obtain ⟨B, HBe⟩ : ∃ x, Box (wr.heap.size = x) := ⟨_, ⟨rfl⟩⟩
      rw [HBe.out] at hOT hb3
      have hTB : Tb < B := by have := HBe.out; omega
      have HS3 : Box (Below Tb w W3 ∧ Blk W3 Tb 3 [.int .i64 tx] ∧ LkM.OwnT W3 B tv t v ∧ B ≤ W3.heap.size) := ⟨HR.out.2.1.trans (hb3.mono (by omega)), HR.out.2.2.below hb3 (by omega), hOT, by have := hb3.size; have := HBe.out; omega⟩
      obtain ⟨ta, tc, htv, hin, hcap, _⟩ := hOT.in_ (by have := HN.out; omega)
      subst htv
      rw [HN.out] at hcap HS3 ⊢
      have hW4b : Below W3.heap.size W3 (W3.alloc (.cells #[.int .i64 tx, .int .i64 mode] 137)) := (Below.refl _ _).alloc (Nat.le_refl _) _
      have HBs := box (bsearch_any t item ta tc B (W3.alloc (.cells #[.int .i64 tx, .int .i64 mode] 137)) (hin.below hW4b (Nat.le_refl _)) (by have := HN.out; omega) HGd.out.rise HGd.out.items HDom.out.2)
      have HS4 : Box (Below Tb w (W3.alloc (.cells #[.int .i64 tx, .int .i64 mode] 137)) ∧ Blk (W3.alloc (.cells #[.int .i64 tx, .int .i64 mode] 137)) Tb 3 [.int .i64 tx] ∧ LkM.OwnT (W3.alloc (.cells #[.int .i64 tx, .int .i64 mode] 137)) B (.slice ta N tc) t v ∧ Blk (W3.alloc (.cells #[.int .i64 tx, .int .i64 mode] 137)) W3.heap.size 137 [.int .i64 tx, .int .i64 mode]) := ⟨HS3.out.1.alloc (by have := HS3.out.2.2.2; omega) _, HS3.out.2.1.alloc _, HS3.out.2.2.1.alloc _, Blk.new _ _ _⟩
      have t3 := HS3.out.2.1.cell (i := 0) rfl
      have hT3 := HS3.out.2.1.lt
      obtain ⟨Ab, HAb⟩ : ∃ x, Box (W3.heap.size = x) := ⟨_, ⟨rfl⟩⟩
      obtain ⟨W4, HW4⟩ : ∃ W, Box (W3.alloc (.cells #[.int .i64 tx, .int .i64 mode] 137) = W) := ⟨_, ⟨rfl⟩⟩
      rw [HN.out] at HBs
      rw [HAb.out] at HS4
      rw [HW4.out] at HS4 HBs
      have hBA : B ≤ Ab := by have := HS3.out.2.2.2; have := HAb.out; omega
      have HLtA : Box (∀ i, i < 100 → ∀ b, (v i).ownBlock = some b → b < Ab) := ⟨fun i hi b hb => by have := (HS3.out.2.2.1.fam.own i hi).lt b hb; have := HAb.out; omega⟩
      clear hOT hb3 hin hW4b HR HS3 HCp
      go_upto_region 14 with (fail)
      rw [HAb.out, HW4.out]
      go_wp2_with fail
      refine HBs.out.mono ?_
      rintro e W5 ⟨p, hPos, rfl, hb5⟩
      have HS5 : Box (Below Tb w W5 ∧ Blk W5 Tb 3 [.int .i64 tx] ∧ LkM.OwnT W5 B (.slice ta N tc) t v ∧ Blk W5 Ab 137 [.int .i64 tx, .int .i64 mode]) := ⟨HS4.out.1.trans (hb5.mono (Nat.le_of_lt HS4.out.2.1.lt)), HS4.out.2.1.after hb5, HS4.out.2.2.1.after hb5, HS4.out.2.2.2.after hb5⟩
      have HPos := box hPos
      have hpN : p ≤ N := by have := hPos.le; have := HN.out; omega
      clear hPos hb5 HS4 HW4 HBs t3 hT3 t0 hTs
      have a0 := HS5.out.2.2.2.cell (i := 0) rfl
      have a1 := HS5.out.2.2.2.cell (i := 1) rfl
      have hAs := HS5.out.2.2.2.lt
      cases hfd : LkM.foundAt t item p with
      | false =>
        have HNew : Box (LkM.askIn item ⟨tx, mode⟩ t = (t.take p ++ ⟨item, [⟨tx, mode⟩], []⟩ :: t.drop p, true)) := ⟨LkM.askIn_new HPos.out hfd⟩
        clear hfd
        go_wp2_with fail
        obtain ⟨Hb, HHb⟩ : ∃ x, Box (W5.heap.size = x) := ⟨_, ⟨rfl⟩⟩
        obtain ⟨W8, HW8⟩ : ∃ W, Box ((W5.alloc (.cells #[.int .i64 tx, .int .i64 mode] 137)).alloc (.cells #[.int .i64 item, .slice (some ⟨W5.heap.size, 0, none⟩) 1 1, .slice none 0 0] 134) = W) := ⟨_, ⟨rfl⟩⟩
        have HS8 : Box (Below Tb w W8 ∧ LkM.OwnT W8 B (.slice ta N tc) t v ∧ Blk W8 Hb 137 [.int .i64 tx, .int .i64 mode] ∧ Blk W8 (Hb + 1) 134 [.int .i64 item, .slice (some ⟨Hb, 0, none⟩) 1 1, .slice none 0 0]) := ⟨by
          have hTW : Tb ≤ W5.heap.size := Nat.le_of_lt HS5.out.2.1.lt
          rw [← HW8.out, ← HHb.out]
          refine ⟨(HS5.out.1.alloc hTW _).alloc (by rw [World.size_alloc]; omega) _, (HS5.out.2.2.1.alloc _).alloc _, (Blk.new _ _ _).alloc _, ?_⟩
          have := Blk.new (W5.alloc (.cells #[.int .i64 tx, .int .i64 mode] 137)) [.int .i64 item, .slice (some ⟨W5.heap.size, 0, none⟩) 1 1, .slice none 0 0] 134
          rwa [World.size_alloc] at this⟩
        have hneV : (Value.slice ta N tc).ownBlock ≠ some (Hb + 1) := fun e => by
          have := (HS5.out.2.2.1.tab.lt _ e).2; have := HHb.out; omega
        have hneH : (Value.slice ta N tc).ownBlock ≠ some Hb := fun e => by
          have := (HS5.out.2.2.1.tab.lt _ e).2; have := HHb.out; omega
        have hBH : B ≤ Hb := by have := HHb.out; omega
        have htab := HS8.out.2.1.tab
        rw [HN.out] at htab
        rw [HW8.out, HHb.out]
        refine (insert_any_li B N p (.slice ta N tc) (LkM.liVals t v) [.int .i64 item, .slice (some ⟨Hb, 0, none⟩) 1 1, .slice none 0 0] (Hb + 1) W8 htab hpN HS8.out.2.2.2 hneV rfl (by simp [Value.oneCell']) (LkM.liVals_one HS8.out.2.1 (by rw [HN.out]; omega)) (by have := HS8.out.2.2.1.lt; omega) (by omega)).mono ?_
        rintro e W9 ⟨g', cap', rfl, hown, hgrow, _⟩
        have HFin : Box (Below Tb w W9 ∧ LisIn W9 w.heap.size (some ⟨g', 0, none⟩) (t.take p ++ ⟨item, [⟨tx, mode⟩], []⟩ :: t.drop p)) := ⟨by
          refine ⟨HS8.out.1.grown hgrow (by have := HS8.out.2.2.1.lt; omega) (fun k hk => by have := (htab.lt k hk).1; omega), ?_⟩
          have hg2 := hgrow
          have h1 := LkM.lis_put (y := ⟨item, [⟨tx, mode⟩], []⟩) (x := .slice (some ⟨Hb, 0, none⟩) 1 1) HS8.out.2.1 (by rw [HN.out]; omega) (by rw [HN.out]; exact hpN) rfl (LkM.rowIn_one (HS8.out.2.2.1.grown hgrow hneH) hBH) (by rw [HN.out]; exact hown) hgrow
          exact h1.mono (by rw [HTb.out]; omega)⟩
        have hlen : (t.take p ++ (⟨item, [⟨tx, mode⟩], []⟩ : LiM) :: t.drop p).length = N + 1 := by rw [List.length_append, List.length_cons, List.length_take, List.length_drop, HN.out]; omega
        clear hown hgrow htab hneV hneH HS8 HS5
        go_wp2_with fail
        rw [← HPost.out]
        refine ⟨by rw [HTb.out]; exact HFin.out.1, Or.inr ⟨HE0.out, some ⟨g', 0, none⟩, cap', ?_, ?_⟩⟩
        · rw [HNew.out, hlen]; rfl
        · rw [HNew.out]; exact HFin.out.2
      | true =>
        obtain ⟨hpl, hit⟩ := LkM.foundAt_iff hfd
        have HOld : Box (LkM.askIn item ⟨tx, mode⟩ t = (t.set p (LkM.askItem t[p] ⟨tx, mode⟩).1, (LkM.askItem t[p] ⟨tx, mode⟩).2)) := ⟨LkM.askIn_old hpl HPos.out hit⟩
        clear hfd
        have hpn : p < N := by rw [← HN.out]; exact hpl
        obtain ⟨g, tc2, hform, _, _⟩ := World.ownsRow.form (by have := HS5.out.2.2.1.tab; rw [HN.out] at this; exact this) (by omega : 0 < N)
        injection hform with hform _ hc2
        subst hform hc2
        obtain ⟨ha, hc, qa, qc, f1, f2, hLi⟩ := HS5.out.2.2.1.item (by rw [HN.out]; omega) hpl rfl
        have HOkp := box (HGd.out.ok _ (List.getElem_mem hpl))
        have HXt : Box (∃ x, t[p] = x) := ⟨_, rfl⟩
        have hgl := (HS5.out.2.2.1.tab.lt g rfl)
        have hgz := fun i => World.ownsRow.frozenAt (by have := HS5.out.2.2.1.tab; rw [HN.out] at this; exact this) i
        rw [Nat.zero_add] at hLi
        obtain ⟨it, hIt⟩ : ∃ y, t[p].item = y := ⟨_, rfl⟩
        obtain ⟨held, hHe⟩ : ∃ y, t[p].held = y := ⟨_, rfl⟩
        obtain ⟨queue, hQu⟩ : ∃ y, t[p].queue = y := ⟨_, rfl⟩
        have HRow : Box (LkM.row t (2 * p) = held ∧ LkM.row t (2 * p + 1) = queue ∧ t[p].item = it) := ⟨by rw [LkM.row_held hpl, LkM.row_queue hpl]; exact ⟨hHe, hQu, hIt⟩⟩
        obtain ⟨c0, c1, c2, hH, hQ, hcap2, hqcap, hnil, qnil⟩ := hLi
        rw [hIt] at c0
        rw [hHe] at c1 hH hcap2 f1
        rw [hQu] at c2 hQ hqcap f2
        have HOkh : Box (LkM.Okl held ∧ LkM.Okl queue) := ⟨by rw [← hHe, ← hQu]; exact ⟨HOkp.out.held, HOkp.out.queue⟩⟩
        have hHl : held.length ≤ 12 := LkM.okl_len HOkh.out.1
        have hQl : queue.length ≤ 12 := LkM.okl_len HOkh.out.2
        have HHe := box hHe; have HQu := box hQu; have HIt := box hIt
        clear hHe hQu hIt hit HXt
        -- the pointer
        obtain ⟨Xb, HXb⟩ : ∃ x, Box (W5.heap.size = x) := ⟨_, ⟨rfl⟩⟩
        obtain ⟨W6, HW6⟩ : ∃ W, Box (W5.alloc (.cells #[.pointer (some ⟨g, p * 3, none⟩)] 144) = W) := ⟨_, ⟨rfl⟩⟩
        have HS6 : Box (Below Tb w W6 ∧ Blk W6 Tb 3 [.int .i64 tx] ∧ LkM.OwnT W6 B (.slice (some ⟨g, 0, none⟩) N tc) t v ∧ Blk W6 Ab 137 [.int .i64 tx, .int .i64 mode] ∧ Blk W6 Xb 144 [.pointer (some ⟨g, p * 3, none⟩)]) := ⟨by
          rw [← HW6.out, ← HXb.out]
          exact ⟨HS5.out.1.alloc (Nat.le_of_lt HS5.out.2.1.lt) _, HS5.out.2.1.alloc _, HS5.out.2.2.1.alloc _, HS5.out.2.2.2.alloc _, Blk.new _ _ _⟩⟩
        have hPb : Below W5.heap.size W5 W6 := by rw [← HW6.out]; exact (Below.refl _ _).alloc (Nat.le_refl _) _
        have hcl : ∀ i, W6.cell? ⟨g, i, none⟩ = W5.cell? ⟨g, i, none⟩ := fun i => hPb.cell (p := ⟨g, i, none⟩) hgl.2
        have d1 := (hcl (p * 3 + 1)).trans c1
        have x0 := HS6.out.2.2.2.2.cell (i := 0) rfl
        have hXs := HS6.out.2.2.2.2.lt
        have hg6 : g < W6.heap.size := Nat.lt_of_lt_of_le hgl.2 hPb.size
        have HCf := box (containsFunc_lks held ha hc 74 #[.pointer (some ⟨Tb, 0, none⟩)] (fun h => h.tx == tx) W6 (hH.at.below hPb (Nat.le_refl _)) (by omega) (fun W hW o _ => ask_f3 W o tx Tb ((HS6.out.2.1.after hW).cell rfl) (HS6.out.2.1.after hW).lt) (enters_fn Tryz.func74 (by kernel_rfl) rfl))
        have hhas : (held.any fun h => h.tx == tx) = LkM.has held tx := rfl
        rw [hhas] at HCf
        obtain ⟨hs0, HHas⟩ : ∃ x, Box (LkM.has held tx = x) := ⟨_, ⟨rfl⟩⟩
        rw [HHas.out] at HCf
        obtain ⟨HL, HHL⟩ : ∃ x, Box (held.length = x) := ⟨_, ⟨rfl⟩⟩
        obtain ⟨QL, HQL⟩ : ∃ x, Box (queue.length = x) := ⟨_, ⟨rfl⟩⟩
        rw [HHL.out] at HCf d1 c1 hcap2 f1 hHl
        rw [HQL.out] at c2 hqcap f2 hQl
        clear hhas hcl hgz a0 a1 hAs
        go_upto_region 18 with (fail)
        rw [HW6.out, HXb.out]
        go_wp2_with fail
        refine HCf.out.mono ?_
        rintro e W7 ⟨rfl, hb7⟩
        have HS7 : Box (Below Tb w W7 ∧ Blk W7 Tb 3 [.int .i64 tx] ∧ LkM.OwnT W7 B (.slice (some ⟨g, 0, none⟩) N tc) t v ∧ Blk W7 Ab 137 [.int .i64 tx, .int .i64 mode] ∧ Blk W7 Xb 144 [.pointer (some ⟨g, p * 3, none⟩)]) := ⟨HS6.out.1.trans (hb7.mono (Nat.le_of_lt HS6.out.2.1.lt)), HS6.out.2.1.after hb7, HS6.out.2.2.1.after hb7, HS6.out.2.2.2.1.after hb7, HS6.out.2.2.2.2.after hb7⟩
        have hb57 : Below W5.heap.size W5 W7 := hPb.trans (hb7.mono hPb.size)
        have hcl : ∀ i, W7.cell? ⟨g, i, none⟩ = W5.cell? ⟨g, i, none⟩ := fun i => hb57.cell (p := ⟨g, i, none⟩) hgl.2
        have C0 := box ((hcl (p * 3)).trans c0); have C1 := box ((hcl (p * 3 + 1)).trans c1); have C2 := box ((hcl (p * 3 + 2)).trans c2)
        have HHm := box (hH.at.below hb57 (Nat.le_refl _)); have HQm := box (hQ.at.below hb57 (Nat.le_refl _))
        have hg7 : g < W7.heap.size := Nat.lt_of_lt_of_le hgl.2 hb57.size
        obtain ⟨u, HU⟩ : ∃ x, Box (LkM.can held ⟨tx, mode⟩ = x) := ⟨_, ⟨rfl⟩⟩
        have HCan := box (fun (wx : World) (hb : Below W7.heap.size W7 wx) => can_any it held ha hc qa QL qc ⟨tx, mode⟩ wx (HHm.out.below hb (Nat.le_refl _)) (fun h hh => (HOkh.out.1.dom h hh).2.2) HMd.out (by rw [HHL.out]; omega))
        rw [HHL.out, HU.out] at HCan
        have HB57 := box hb57
        clear hcl hb57 hb7 hPb HW6 HS6 HS5 HCf c0 c1 c2 d1 x0 hXs hg6 hH hQ
        have x0 := HS7.out.2.2.2.2.cell (i := 0) rfl
        have hXs := HS7.out.2.2.2.2.lt
        have a0 := HS7.out.2.2.2.1.cell (i := 0) rfl
        have a1 := HS7.out.2.2.2.1.cell (i := 1) rfl
        have hAs := HS7.out.2.2.2.1.lt
        have k0 := C0.out
        have k1 := C1.out
        have k2 := C2.out
        have HQ0 : Box ((QL : Int) == 0) = Box ((QL : Int) == 0) := rfl
        obtain ⟨z, HZ⟩ : ∃ x : Bool, Box (((QL : Int) == 0) = x) := ⟨_, ⟨rfl⟩⟩
        clear HQ0
        go_upto_region 19 with (fail)
        go_cut [101] (fun s101 wx => s101 = .bool (u && (hs0 || z)) ∧ Box (Below W7.heap.size W7 wx))
        case first => as_aux_lemma =>
          have z0 := HZ.out
          cases u
          case false =>
            have hund : (undef : Value) = .tuple #[] := rfl
            first | go_region_with (go_at_call 75; refine (HCan.out _ (by first | exact Below.refl _ _ | exact (Below.refl _ _).drew)).mono ?_; rintro e w' ⟨rfl, hb'⟩; have hbx : Below W7.heap.size W7 w' := (by first | exact hb' | exact (Below.refl W7.heap.size W7).drew.trans hb'); have y0 := (HS7.out.2.2.2.2.after hbx).cell (i := 0) rfl; have ys := (HS7.out.2.2.2.2.after hbx).lt; have y2 := (hbx.cell (p := ⟨g, p * 3 + 2, none⟩) hg7).trans C2.out; have yg := Nat.lt_of_lt_of_le hg7 hbx.size) | fail
            all_goals (have HBx := box hbx)
            all_goals (clear hb' hbx y0 ys y2 yg)
            all_goals (go_wp2_with fail)
            all_goals go_meet
            all_goals first
              | exact ⟨rfl, HBx⟩
              | exact ⟨rfl, ⟨HBx.out.drew⟩⟩
          case true =>
            cases hs0
            case true =>
              first | go_region_with (go_at_call 75; refine (HCan.out _ (by first | exact Below.refl _ _ | exact (Below.refl _ _).drew)).mono ?_; rintro e w' ⟨rfl, hb'⟩; have hbx : Below W7.heap.size W7 w' := (by first | exact hb' | exact (Below.refl W7.heap.size W7).drew.trans hb'); have y0 := (HS7.out.2.2.2.2.after hbx).cell (i := 0) rfl; have ys := (HS7.out.2.2.2.2.after hbx).lt; have y2 := (hbx.cell (p := ⟨g, p * 3 + 2, none⟩) hg7).trans C2.out; have yg := Nat.lt_of_lt_of_le hg7 hbx.size) | fail
              all_goals (have HBx := box hbx)
              all_goals (clear hb' hbx y0 ys y2 yg)
              all_goals (go_wp2_with fail)
              all_goals go_meet
              all_goals first
                | exact ⟨rfl, HBx⟩
                | exact ⟨rfl, ⟨HBx.out.drew⟩⟩
            case false =>
              cases z
              all_goals
                first | go_region_with (go_at_call 75; refine (HCan.out _ (by first | exact Below.refl _ _ | exact (Below.refl _ _).drew)).mono ?_; rintro e w' ⟨rfl, hb'⟩; have hbx : Below W7.heap.size W7 w' := (by first | exact hb' | exact (Below.refl W7.heap.size W7).drew.trans hb'); have y0 := (HS7.out.2.2.2.2.after hbx).cell (i := 0) rfl; have ys := (HS7.out.2.2.2.2.after hbx).lt; have y2 := (hbx.cell (p := ⟨g, p * 3 + 2, none⟩) hg7).trans C2.out; have yg := Nat.lt_of_lt_of_le hg7 hbx.size) | fail
                all_goals (have HBx := box hbx)
                all_goals (clear hb' hbx y0 ys y2 yg)
                all_goals (go_wp2_with fail)
                all_goals go_meet
                all_goals first
                  | exact ⟨rfl, HBx⟩
                  | exact ⟨rfl, ⟨HBx.out.drew⟩⟩
        case rest =>
          obtain ⟨V8, hV8⟩ : ∃ x, x = wc := ⟨_, rfl⟩
          rw [← hV8] at hcut ⊢
          clear hV8
          obtain ⟨rfl, HB8⟩ := hcut
          have HS8 : Box (Below Tb w V8 ∧ LkM.OwnT V8 B (.slice (some ⟨g, 0, none⟩) N tc) t v ∧ Blk V8 Ab 137 [.int .i64 tx, .int .i64 mode] ∧ Blk V8 Xb 144 [.pointer (some ⟨g, p * 3, none⟩)] ∧ Below W5.heap.size W5 V8) := ⟨HS7.out.1.trans (HB8.out.mono (Nat.le_of_lt HS7.out.2.1.lt)), HS7.out.2.2.1.after HB8.out, HS7.out.2.2.2.1.after HB8.out, HS7.out.2.2.2.2.after HB8.out, HB57.out.trans (HB8.out.mono HB57.out.size)⟩
          have hcl : ∀ i, V8.cell? ⟨g, i, none⟩ = W7.cell? ⟨g, i, none⟩ := fun i => HB8.out.cell (p := ⟨g, i, none⟩) hg7
          have D0 := box ((hcl (p * 3)).trans C0.out); have D1 := box ((hcl (p * 3 + 1)).trans C1.out); have D2 := box ((hcl (p * 3 + 2)).trans C2.out)
          have HZf : Box (∀ i, V8.frozen? ⟨g, i, none⟩ = false) := ⟨fun i => World.ownsRow.frozenAt (by have := HS8.out.2.1.tab; rw [HN.out] at this; exact this) i⟩
          have hg8 : g < V8.heap.size := Nat.lt_of_lt_of_le hg7 HB8.out.size
          have hB8 : B ≤ V8.heap.size := by omega
          have hneg : ∀ i, i < 100 → (v i).ownBlock ≠ some g := fun i hi e => by
            rcases row_ne (HS8.out.2.1.fam.own i hi) HS8.out.2.1.tab (by decide) with h | h
            · rw [h] at e; cases e
            · exact h e
          have HOwH : Box (V8.ownsRow B 137 2 (.slice ha HL hc) HL (lkVals held)) := ⟨by
            have := HS8.out.2.1.fam.own (2 * p) (by omega)
            rw [f1] at this
            simp only [HRow.out.1, HHL.out] at this
            exact this⟩
          have HOwQ : Box (V8.ownsRow B 137 2 (.slice qa QL qc) QL (lkVals queue)) := ⟨by
            have := HS8.out.2.1.fam.own (2 * p + 1) (by omega)
            rw [f2] at this
            simp only [HRow.out.2.1, HQL.out] at this
            exact this⟩
          have HNeH : Box ((Value.slice ha HL hc).ownBlock ≠ some g) := ⟨by have := hneg (2 * p) (by omega); rwa [f1] at this⟩
          have HNeQ : Box ((Value.slice qa QL qc).ownBlock ≠ some g) := ⟨by have := hneg (2 * p + 1) (by omega); rwa [f2] at this⟩
          clear hcl hneg
          clear x0 hXs a0 a1 hAs k0 k1 k2
          have x0 := HS8.out.2.2.2.1.cell (i := 0) rfl
          have hXs := HS8.out.2.2.2.1.lt
          have a0 := HS8.out.2.2.1.cell (i := 0) rfl
          have a1 := HS8.out.2.2.1.cell (i := 1) rfl
          have hAs := HS8.out.2.2.1.lt
          obtain ⟨rs, HRs⟩ : ∃ r, Box ((u && (hs0 || z)) = r) := ⟨_, ⟨rfl⟩⟩
          rw [HRs.out]
          cases rs with
          | true =>
            have HYes : Box (LkM.can t[p].held ⟨tx, mode⟩ = true ∧ (LkM.has t[p].held tx = true ∨ t[p].queue = [])) := ⟨by
              have h1 := HRs.out
              rw [Bool.and_eq_true, Bool.or_eq_true] at h1
              rw [HHe.out, HQu.out, HU.out, HHas.out]
              refine ⟨h1.1, h1.2.imp id fun h => ?_⟩
              rw [h] at HZ
              have := HZ.out
              rw [beq_iff_eq] at this
              exact List.eq_nil_of_length_eq_zero (by rw [HQL.out]; omega)⟩
            have HGv := box (give_any it held ha hc qa QL qc ⟨tx, mode⟩ V8 B g (p * 3) D0.out (by rw [HHL.out]; exact D1.out) D2.out (HZf.out _) hg8 (by rw [HHL.out]; exact HOwH.out) (by rw [HHL.out]; exact HNeH.out) (fun h hh => (HOkh.out.1.dom h hh).2.2) HMd.out (by rw [HHL.out]; omega) hB8)
            rw [HHL.out] at HGv
            go_step
            go_wp2_with fail
            refine HGv.out.mono ?_
            rintro e W9 ⟨rfl, hG⟩
            have HG := box hG
            clear hG HGv
            go_wp2_with fail
            rw [← HPost.out]
            have hl9 : (t.set p (LkM.askItem t[p] ⟨tx, mode⟩).1).length = N := by rw [List.length_set, HN.out]
            have hai : LkM.askItem t[p] ⟨tx, mode⟩ = ({ t[p] with held := LkM.give t[p].held ⟨tx, mode⟩ }, true) := by
              unfold LkM.askItem
              rw [if_pos HYes.out]
            refine ⟨by rw [HTb.out]; exact HS8.out.1.trans (HG.out.below Tb (by omega) (by omega) (by omega)), Or.inr ⟨HE0.out, some ⟨g, 0, none⟩, tc, ?_, ?_⟩⟩
            · rw [HOld.out, hl9, hai]; rfl
            · rw [HOld.out, hai]
              refine (LkM.give_fin HS8.out.2.1 (by rw [HN.out]; omega) rfl hpl ?_).mono (by rw [HTb.out]; omega)
              rw [HHe.out, f1]
              exact HG.out
          | false =>
            have HNo : Box (¬ (LkM.can t[p].held ⟨tx, mode⟩ = true ∧ (LkM.has t[p].held tx = true ∨ t[p].queue = []))) := ⟨fun h => by
              have h1 := HRs.out
              rw [HHe.out, HQu.out, HU.out, HHas.out] at h
              have h2 : z = true ∨ hs0 = true := by
                rcases h.2 with h3 | h3
                · exact Or.inr h3
                · left
                  rw [← HZ.out, ← HQL.out, h3]
                  rfl
              rw [h.1] at h1
              rcases h2 with h2 | h2 <;> rw [h2] at h1 <;> simp at h1⟩
            have hai : Box (LkM.askItem t[p] ⟨tx, mode⟩ = ({ t[p] with queue := if hs0 = true then queue.take (LkM.ahead held queue) ++ ⟨tx, mode⟩ :: queue.drop (LkM.ahead held queue) else queue ++ [⟨tx, mode⟩] }, false)) := ⟨by
              have e : LkM.enqueue t[p] ⟨tx, mode⟩ = if hs0 = true then queue.take (LkM.ahead held queue) ++ ⟨tx, mode⟩ :: queue.drop (LkM.ahead held queue) else queue ++ [⟨tx, mode⟩] := by
                unfold LkM.enqueue
                rw [HHe.out, HQu.out, HHas.out]
              have e2 : LkM.askItem t[p] ⟨tx, mode⟩ = ({ t[p] with queue := LkM.enqueue t[p] ⟨tx, mode⟩ }, false) := if_neg HNo.out
              rw [e2, e]⟩
            have HGb : Box (∀ w2, ((V8.alloc (.cells #[.int .i64 tx, .int .i64 mode] 137)).drew).grownBy w2 (Value.slice qa QL qc).ownBlock → w2.cell? ⟨g, p * 3 + 2, none⟩ = some (.slice qa QL qc) ∧ w2.frozen? ⟨g, p * 3 + 2, none⟩ = false ∧ g < w2.heap.size ∧ w2.cell? ⟨Xb, 0, none⟩ = some (.pointer (some ⟨g, p * 3, none⟩)) ∧ Xb < w2.heap.size) := ⟨fun w2 hgr => by
              have hbb : Below V8.heap.size V8 ((V8.alloc (.cells #[.int .i64 tx, .int .i64 mode] 137)).drew) := ((Below.refl _ _).alloc (Nat.le_refl _) _).drew
              have hgs2 : g < ((V8.alloc (.cells #[.int .i64 tx, .int .i64 mode] 137)).drew).heap.size := Nat.lt_of_lt_of_le hg8 hbb.size
              have h7 := (hgr.block g hgs2 (fun e => HNeQ.out e.symm)).trans (hbb.block g hg8)
              exact ⟨(World.cell?_of_block (a := ⟨g, p * 3 + 2, none⟩) h7).trans D2.out, (World.frozen?_of_block (a := ⟨g, p * 3 + 2, none⟩) h7).trans (HZf.out _), Nat.lt_of_lt_of_le hgs2 hgr.size, (((HS8.out.2.2.2.1.alloc _).drew).grown hgr (HS8.out.2.2.2.1.ne_own HOwQ.out (by decide))).cell (i := 0) rfl, (((HS8.out.2.2.2.1.alloc _).drew).grown hgr (HS8.out.2.2.2.1.ne_own HOwQ.out (by decide))).lt⟩⟩
            have HFin : Box (∀ w7 gg gcap, w7.ownsRow B 137 2 (.slice (some ⟨gg, 0, none⟩) (QL + 1) gcap) (QL + 1) (lkVals queue ++ [.int .i64 tx, .int .i64 mode]) → ((V8.alloc (.cells #[.int .i64 tx, .int .i64 mode] 137)).drew).grownBy w7 (Value.slice qa QL qc).ownBlock → ((Value.slice qa QL qc).ownBlock = some gg ∨ gg = V8.heap.size + 1) → LkM.GiveP V8 B g (p * 3 + 1) (.slice qa QL qc) (queue ++ [⟨tx, mode⟩]) (w7.setCell ⟨g, p * 3 + 2, none⟩ (.slice (some ⟨gg, 0, none⟩) (QL + 1) gcap))) := ⟨fun w7 gg gcap h1 h2 h3 => by
              rw [← HQL.out] at h1 h2 h3 ⊢
              exact LkM.GiveP.app (x := ⟨tx, mode⟩) (wa := (V8.alloc (.cells #[.int .i64 tx, .int .i64 mode] 137)).drew) ((Below.refl _ _).alloc (Nat.le_refl _) _).drew (by rw [HQL.out]; exact HOwQ.out) (by rw [HQL.out]; exact HNeQ.out) hg8 ⟨_, D2.out⟩ h1 h2 (h3.imp id fun e => by omega)⟩
            have hQL1000 : QL + 1 ≤ 1000 := by omega
            have d2 := D2.out
            have HSz : Box (Below V8.heap.size V8 (V8.alloc (.cells #[.int .i64 tx, .int .i64 mode] 137)).drew) := ⟨((Below.refl _ _).alloc (Nat.le_refl _) _).drew⟩
            go_step
            go_upto_region 22 with (fail)
            go_cut [113] (fun _ wx => Box (LkM.GiveP V8 B g (p * 3 + 1) (.slice qa QL qc) (queue ++ [⟨tx, mode⟩]) wx))
            case first => as_aux_lemma =>
              have hB8 : B ≤ V8.heap.size := by have := HS8.out.2.2.1.lt; omega
              have HGc : Box (∀ w2, V8.grownBy w2 (Value.slice qa QL qc).ownBlock → w2.cell? ⟨g, p * 3 + 2, none⟩ = some (.slice qa QL qc) ∧ w2.frozen? ⟨g, p * 3 + 2, none⟩ = false ∧ g < w2.heap.size ∧ w2.cell? ⟨Xb, 0, none⟩ = some (.pointer (some ⟨g, p * 3, none⟩)) ∧ Xb < w2.heap.size ∧ w2.cell? ⟨Ab, 0, none⟩ = some (.int .i64 tx) ∧ w2.cell? ⟨Ab, 1, none⟩ = some (.int .i64 mode) ∧ Ab < w2.heap.size) := ⟨fun w2 hgr => by
                have h7 := hgr.block g hg8 (fun e => HNeQ.out e.symm)
                have hAq : (Value.slice qa QL qc).ownBlock ≠ some Ab := fun e => by
                  have := HLtA.out (2 * p + 1) (by omega) Ab (by rw [f2]; exact e)
                  omega
                have hA := HS8.out.2.2.1.grown hgr hAq
                exact ⟨(World.cell?_of_block (a := ⟨g, p * 3 + 2, none⟩) h7).trans D2.out, (World.frozen?_of_block (a := ⟨g, p * 3 + 2, none⟩) h7).trans (HZf.out _), Nat.lt_of_lt_of_le hg8 hgr.size, (HS8.out.2.2.2.1.grown hgr (HS8.out.2.2.2.1.ne_own HOwQ.out (by decide))).cell (i := 0) rfl, (HS8.out.2.2.2.1.grown hgr (HS8.out.2.2.2.1.ne_own HOwQ.out (by decide))).lt, hA.cell (i := 0) rfl, hA.cell (i := 1) rfl, hA.lt⟩⟩
              have HFin2 : Box (∀ w7 gg gcap, w7.ownsRow B 137 2 (.slice (some ⟨gg, 0, none⟩) (QL + 1) gcap) (QL + 1) (lkVals queue ++ [.int .i64 tx, .int .i64 mode]) → ((Value.slice qa QL qc).ownBlock = some gg ∨ V8.heap.size ≤ gg) → V8.grownBy w7 (Value.slice qa QL qc).ownBlock → LkM.GiveP V8 B g (p * 3 + 1) (.slice qa QL qc) (queue ++ [⟨tx, mode⟩]) (w7.setCell ⟨g, p * 3 + 2, none⟩ (.slice (some ⟨gg, 0, none⟩) (QL + 1) gcap))) := ⟨fun w7 gg gcap h1 h3 h2 => by
                rw [← HQL.out] at h1 h2 h3 ⊢
                exact LkM.GiveP.app (x := ⟨tx, mode⟩) (wa := V8) (Below.refl _ _) (by rw [HQL.out]; exact HOwQ.out) (by rw [HQL.out]; exact HNeQ.out) hg8 ⟨_, D2.out⟩ h1 h2 h3⟩
              obtain ⟨PV, HPV⟩ : ∃ PV : Nat → Option Value, Box (PV = fun i => ([some (.pointer (some ⟨g, p * 3, none⟩)), some (.pointer (some ⟨g, p * 3, none⟩)), some (.pointer (some ⟨g, p * 3, none⟩)), some (.pointer (some ⟨g, p * 3 + 2, none⟩)), some (.slice qa QL qc), some (.agg #[.int .i64 tx, .int .i64 mode]), none, none, some (.pointer (some ⟨g, p * 3, none⟩)), some (.pointer (some ⟨g, p * 3 + 2, none⟩)), none] : List (Option Value)).getD i none) := ⟨_, ⟨rfl⟩⟩
              refine wp_region_dagv (by kernel_rfl) (fun Lf vals wx => (∀ i v, PV i = some v → Lf.getD i false = true → vals i = v) ∧ PutR V8 (.slice qa QL qc) B 137 2 QL (lkVals queue) ⟨g, p * 3 + 2, none⟩ [.int .i64 tx, .int .i64 mode] (Lf.getD 6 false) (Lf.getD 7 false) (Lf.getD 10 false) (vals 6) (vals 7) wx) (by kernel_rfl) ?_ ?_ ?_
              · refine ⟨fun i v _ h => absurd h (by simp [Array.getD_eq_getD_getElem?, Array.getElem?_replicate]; try (split <;> simp)), ?_⟩
                simp only [Array.getD_eq_getD_getElem?, Array.getElem?_replicate, List.size_toArray, List.length_cons, List.length_nil, Nat.reduceAdd, Nat.reduceLT, if_true, Option.getD_some]
                exact PutR.start
              · intro i hi o ho Lf vals b wx hat haft hL hR
                obtain ⟨hP, hS⟩ := hR
                have hco := hat.const
                have hkeep : ∀ i v, (PV i = some v ∨ PV i = none) → Lf.getD i true = false → (∀ j u, PV j = some u → (Lf.setIfInBounds i true).getD j false = true → Dag.turn vals i v j = u) := fun i v hv hL j u hu hj => by
                  by_cases e : j = i
                  · subst e; rw [Dag.turn_same]; rcases hv with hv | hv <;> rw [hv] at hu <;> simp at hu; exact hu
                  · rw [Dag.turn_other _ _ e]; rw [getD_set_ne false (Ne.symm e)] at hj; exact hP j u hu hj
                have r18 : b.eval (.tmp 18) = .pointer (some ⟨Xb, 0, none⟩) := hat.old 18 (by
                  intro j o' hj
                  match j with
                  | 0 | 1 | 2 | 3 | 4 | 5 | 6 | 7 | 8 | 9 | 10 => injection hj with hj; subst hj; simp
                  | j + 11 => cases hj)
                have r15 : b.eval (.tmp 15) = .pointer (some ⟨Ab, 0, none⟩) := hat.old 15 (by
                  intro j o' hj
                  match j with
                  | 0 | 1 | 2 | 3 | 4 | 5 | 6 | 7 | 8 | 9 | 10 => injection hj with hj; subst hj; simp
                  | j + 11 => cases hj)
                match i, hi with
                | 0, _ =>
                  injection ho with ho
                  subst ho
                  have q10 : Lf.getD 10 false = false := by
                    cases h : Lf.getD 10 false with
                    | false => rfl
                    | true => have := hat.closed 10 _ h rfl ⟨0, .phase⟩ (by simp) rfl; rw [Dag.off hL] at this; cases this
                  have hg := hS.g q10
                  obtain ⟨q0, qz, qs, qx, qxs, qa0, qa1, qas⟩ := HGc.out wx hg
                  refine Dag.yields (w' := wx) (.pointer (some ⟨g, p * 3, none⟩)) ?_ ⟨.pointer (some ⟨g, p * 3, none⟩), rfl, hkeep 0 _ (Or.inl (by rw [HPV.out]; rfl)) hL, ?_⟩
                  · clear hP hS hat haft hkeep hL hg q10
                    generalize b.eval = ρ at *
                    go_simp
                  · simp only [getD_set_ne false (show 0 ≠ 6 by decide), getD_set_ne false (show 0 ≠ 7 by decide), getD_set_ne false (show 0 ≠ 10 by decide), Dag.turn_other vals (i := 0) (j := 6) _ (by decide), Dag.turn_other vals (i := 0) (j := 7) _ (by decide)]
                    exact hS
                | 1, _ =>
                  injection ho with ho
                  subst ho
                  have q10 : Lf.getD 10 false = false := by
                    cases h : Lf.getD 10 false with
                    | false => rfl
                    | true => have := hat.closed 10 _ h rfl ⟨1, .phase⟩ (by simp) rfl; rw [Dag.off hL] at this; cases this
                  have hg := hS.g q10
                  obtain ⟨q0, qz, qs, qx, qxs, qa0, qa1, qas⟩ := HGc.out wx hg
                  refine Dag.yields (w' := wx) (.pointer (some ⟨g, p * 3, none⟩)) ?_ ⟨.pointer (some ⟨g, p * 3, none⟩), rfl, hkeep 1 _ (Or.inl (by rw [HPV.out]; rfl)) hL, ?_⟩
                  · clear hP hS hat haft hkeep hL hg q10
                    generalize b.eval = ρ at *
                    go_simp
                  · simp only [getD_set_ne false (show 1 ≠ 6 by decide), getD_set_ne false (show 1 ≠ 7 by decide), getD_set_ne false (show 1 ≠ 10 by decide), Dag.turn_other vals (i := 1) (j := 6) _ (by decide), Dag.turn_other vals (i := 1) (j := 7) _ (by decide)]
                    exact hS
                | 2, _ =>
                  injection ho with ho
                  subst ho
                  have e107 : b.eval (.tmp 107) = .pointer (some ⟨g, p * 3, none⟩) := (hat.new 1 _ 107 (haft ⟨1, .data⟩ (by simp) rfl) rfl rfl).trans (hP 1 _ (by rw [HPV.out]; rfl) (haft ⟨1, .data⟩ (by simp) rfl))
                  have q10 : Lf.getD 10 false = false := by
                    cases h : Lf.getD 10 false with
                    | false => rfl
                    | true => have := hat.closed 10 _ h rfl ⟨2, .phase⟩ (by simp) rfl; rw [Dag.off hL] at this; cases this
                  have hg := hS.g q10
                  obtain ⟨q0, qz, qs, qx, qxs, qa0, qa1, qas⟩ := HGc.out wx hg
                  refine Dag.yields (w' := wx) (.pointer (some ⟨g, p * 3, none⟩)) ?_ ⟨.pointer (some ⟨g, p * 3, none⟩), rfl, hkeep 2 _ (Or.inl (by rw [HPV.out]; rfl)) hL, ?_⟩
                  · clear hP hS hat haft hkeep hL hg q10
                    generalize b.eval = ρ at *
                    go_simp
                  · simp only [getD_set_ne false (show 2 ≠ 6 by decide), getD_set_ne false (show 2 ≠ 7 by decide), getD_set_ne false (show 2 ≠ 10 by decide), Dag.turn_other vals (i := 2) (j := 6) _ (by decide), Dag.turn_other vals (i := 2) (j := 7) _ (by decide)]
                    exact hS
                | 3, _ =>
                  injection ho with ho
                  subst ho
                  have e108 : b.eval (.tmp 108) = .pointer (some ⟨g, p * 3, none⟩) := (hat.new 2 _ 108 (haft ⟨2, .data⟩ (by simp) rfl) rfl rfl).trans (hP 2 _ (by rw [HPV.out]; rfl) (haft ⟨2, .data⟩ (by simp) rfl))
                  have q10 : Lf.getD 10 false = false := by
                    cases h : Lf.getD 10 false with
                    | false => rfl
                    | true => have := hat.closed 10 _ h rfl ⟨3, .phase⟩ (by simp) rfl; rw [Dag.off hL] at this; cases this
                  have hg := hS.g q10
                  obtain ⟨q0, qz, qs, qx, qxs, qa0, qa1, qas⟩ := HGc.out wx hg
                  refine Dag.yields (w' := wx) (.pointer (some ⟨g, p * 3 + 2, none⟩)) ?_ ⟨.pointer (some ⟨g, p * 3 + 2, none⟩), rfl, hkeep 3 _ (Or.inl (by rw [HPV.out]; rfl)) hL, ?_⟩
                  · clear hP hS hat haft hkeep hL hg q10
                    generalize b.eval = ρ at *
                    go_simp
                  · simp only [getD_set_ne false (show 3 ≠ 6 by decide), getD_set_ne false (show 3 ≠ 7 by decide), getD_set_ne false (show 3 ≠ 10 by decide), Dag.turn_other vals (i := 3) (j := 6) _ (by decide), Dag.turn_other vals (i := 3) (j := 7) _ (by decide)]
                    exact hS
                | 4, _ =>
                  injection ho with ho
                  subst ho
                  have e109 : b.eval (.tmp 109) = .pointer (some ⟨g, p * 3 + 2, none⟩) := (hat.new 3 _ 109 (haft ⟨3, .data⟩ (by simp) rfl) rfl rfl).trans (hP 3 _ (by rw [HPV.out]; rfl) (haft ⟨3, .data⟩ (by simp) rfl))
                  have q10 : Lf.getD 10 false = false := by
                    cases h : Lf.getD 10 false with
                    | false => rfl
                    | true => have := hat.closed 10 _ h rfl ⟨4, .phase⟩ (by simp) rfl; rw [Dag.off hL] at this; cases this
                  have hg := hS.g q10
                  obtain ⟨q0, qz, qs, qx, qxs, qa0, qa1, qas⟩ := HGc.out wx hg
                  refine Dag.yields (w' := wx) (.slice qa QL qc) ?_ ⟨.slice qa QL qc, rfl, hkeep 4 _ (Or.inl (by rw [HPV.out]; rfl)) hL, ?_⟩
                  · clear hP hS hat haft hkeep hL hg q10
                    generalize b.eval = ρ at *
                    go_simp
                  · simp only [getD_set_ne false (show 4 ≠ 6 by decide), getD_set_ne false (show 4 ≠ 7 by decide), getD_set_ne false (show 4 ≠ 10 by decide), Dag.turn_other vals (i := 4) (j := 6) _ (by decide), Dag.turn_other vals (i := 4) (j := 7) _ (by decide)]
                    exact hS
                | 5, _ =>
                  injection ho with ho
                  subst ho
                  have q10 : Lf.getD 10 false = false := by
                    cases h : Lf.getD 10 false with
                    | false => rfl
                    | true => have := hat.closed 10 _ h rfl ⟨5, .phase⟩ (by simp) rfl; rw [Dag.off hL] at this; cases this
                  have hg := hS.g q10
                  obtain ⟨q0, qz, qs, qx, qxs, qa0, qa1, qas⟩ := HGc.out wx hg
                  refine Dag.yields (w' := wx) (.agg #[.int .i64 tx, .int .i64 mode]) ?_ ⟨.agg #[.int .i64 tx, .int .i64 mode], rfl, hkeep 5 _ (Or.inl (by rw [HPV.out]; rfl)) hL, ?_⟩
                  · clear hP hS hat haft hkeep hL hg q10
                    generalize b.eval = ρ at *
                    go_simp
                  · simp only [getD_set_ne false (show 5 ≠ 6 by decide), getD_set_ne false (show 5 ≠ 7 by decide), getD_set_ne false (show 5 ≠ 10 by decide), Dag.turn_other vals (i := 5) (j := 6) _ (by decide), Dag.turn_other vals (i := 5) (j := 7) _ (by decide)]
                    exact hS
                | 6, _ =>
                  injection ho with ho
                  subst ho
                  have e111 : b.eval (.tmp 111) = .agg #[.int .i64 tx, .int .i64 mode] := (hat.new 5 _ 111 (haft ⟨5, .data⟩ (by simp) rfl) rfl rfl).trans (hP 5 _ (by rw [HPV.out]; rfl) (haft ⟨5, .data⟩ (by simp) rfl))
                  have q10 : Lf.getD 10 false = false := by
                    cases h : Lf.getD 10 false with
                    | false => rfl
                    | true => have := hat.closed 10 _ h rfl ⟨6, .phase⟩ (by simp) rfl; rw [Dag.off hL] at this; cases this
                  have hg := hS.g q10
                  obtain ⟨q0, qz, qs, qx, qxs, qa0, qa1, qas⟩ := HGc.out wx hg
                  have q7 : Lf.getD 7 false = false := by
                    cases h : Lf.getD 7 false with
                    | false => rfl
                    | true => have := hat.closed 7 _ h rfl ⟨6, .data⟩ (by simp) rfl; rw [Dag.off hL] at this; cases this
                  rw [q7, q10, Dag.off hL] at hS
                  refine Dag.yields (w' := wx.alloc (.cells #[.int .i64 tx, .int .i64 mode] 137)) (.slice (some ⟨wx.heap.size, 0, none⟩) 1 1) ?_ ⟨_, rfl, hkeep 6 _ (Or.inr (by rw [HPV.out]; rfl)) hL, ?_⟩
                  · clear hP hS hat haft hkeep hL hg
                    generalize b.eval = ρ at *
                    go_simp
                  rw [Dag.on hL]
                  simp only [getD_set_ne false (show 6 ≠ 7 by decide), getD_set_ne false (show 6 ≠ 10 by decide), Dag.turn_same, Dag.turn_other vals (i := 6) (j := 7) _ (by decide)]
                  rw [q7, q10]
                  exact hS.lay
                | 7, _ =>
                  injection ho with ho
                  subst ho
                  have e110 : b.eval (.tmp 110) = .slice qa QL qc := (hat.new 4 _ 110 (haft ⟨4, .data⟩ (by simp) rfl) rfl rfl).trans (hP 4 _ (by rw [HPV.out]; rfl) (haft ⟨4, .data⟩ (by simp) rfl))
                  have e112 : b.eval (.tmp 112) = vals 6 := hat.new 6 _ 112 (haft ⟨6, .data⟩ (by simp) rfl) rfl rfl
                  have l6 : Lf.getD 6 false = true := haft ⟨6, .data⟩ (by simp) rfl
                  have q10 : Lf.getD 10 false = false := by
                    cases h : Lf.getD 10 false with
                    | false => rfl
                    | true => have := hat.closed 10 _ h rfl ⟨7, .phase⟩ (by simp) rfl; rw [Dag.off hL] at this; cases this
                  have hg := hS.g q10
                  obtain ⟨q0, qz, qs, qx, qxs, qa0, qa1, qas⟩ := HGc.out wx hg
                  rw [l6, q10, Dag.off hL] at hS
                  have hbl := hS.a rfl rfl
                  have hown := ownsRow_below (HOwQ.out) hbl
                  have hvb := hS.b rfl
                  have hkb := hS.k rfl rfl rfl
                  have hsz := hbl.size
                  refine wp_append_lies wx _ _ 132 rfl (B) 137 i0 _ 2 16 Tryz.underlying132 hi0 hz0 hz1 hz2 rfl (by decide) (.slice qa QL qc) (QL) (lkVals queue) e110 hown ⟨_, 0, none⟩ 1 1 [.int .i64 tx, .int .i64 mode] (e112.trans hvb) rfl (World.news_of_block (cs := #[.int .i64 tx, .int .i64 mode]) (t := 137) (fr := (0, 0)) hkb) (by simp [Value.oneCell']) (by omega) (by unfold maxLen; omega) (by omega) (by have := hsz; omega) _ rfl ?_
                  intro gQ gcQ w'' hown2 hgrow hatg hltg
                  refine ⟨_, rfl, hkeep 7 _ (Or.inr (by rw [HPV.out]; rfl)) hL, ?_⟩
                  rw [Dag.on hL]
                  simp only [getD_set_ne false (show 7 ≠ 6 by decide), getD_set_ne false (show 7 ≠ 10 by decide), Dag.turn_same, Dag.turn_other vals (i := 7) (j := 6) _ (by decide)]
                  rw [l6, q10]
                  exact hS.app hown2 hgrow hatg
                | 8, _ =>
                  injection ho with ho
                  subst ho
                  have e106 : b.eval (.tmp 106) = .pointer (some ⟨g, p * 3, none⟩) := (hat.new 0 _ 106 (haft ⟨0, .data⟩ (by simp) rfl) rfl rfl).trans (hP 0 _ (by rw [HPV.out]; rfl) (haft ⟨0, .data⟩ (by simp) rfl))
                  have q10 : Lf.getD 10 false = false := by
                    cases h : Lf.getD 10 false with
                    | false => rfl
                    | true =>
                      have h9 := hat.closed 10 _ h rfl ⟨9, .data⟩ (by simp) rfl
                      have h8 := hat.closed 9 _ h9 rfl ⟨8, .data⟩ (by simp) rfl
                      rw [Dag.off hL] at h8; cases h8
                  have hg := hS.g q10
                  obtain ⟨q0, qz, qs, qx, qxs, qa0, qa1, qas⟩ := HGc.out wx hg
                  refine Dag.yields (w' := wx) (.pointer (some ⟨g, p * 3, none⟩)) ?_ ⟨.pointer (some ⟨g, p * 3, none⟩), rfl, hkeep 8 _ (Or.inl (by rw [HPV.out]; rfl)) hL, ?_⟩
                  · clear hP hS hat haft hkeep hL hg q10
                    generalize b.eval = ρ at *
                    go_simp
                  · simp only [getD_set_ne false (show 8 ≠ 6 by decide), getD_set_ne false (show 8 ≠ 7 by decide), getD_set_ne false (show 8 ≠ 10 by decide), Dag.turn_other vals (i := 8) (j := 6) _ (by decide), Dag.turn_other vals (i := 8) (j := 7) _ (by decide)]
                    exact hS
                | 9, _ =>
                  injection ho with ho
                  subst ho
                  have e114 : b.eval (.tmp 114) = .pointer (some ⟨g, p * 3, none⟩) := (hat.new 8 _ 114 (haft ⟨8, .data⟩ (by simp) rfl) rfl rfl).trans (hP 8 _ (by rw [HPV.out]; rfl) (haft ⟨8, .data⟩ (by simp) rfl))
                  have q10 : Lf.getD 10 false = false := by
                    cases h : Lf.getD 10 false with
                    | false => rfl
                    | true =>
                      have h9 := hat.closed 10 _ h rfl ⟨9, .data⟩ (by simp) rfl
                      rw [Dag.off hL] at h9; cases h9
                  have hg := hS.g q10
                  obtain ⟨q0, qz, qs, qx, qxs, qa0, qa1, qas⟩ := HGc.out wx hg
                  refine Dag.yields (w' := wx) (.pointer (some ⟨g, p * 3 + 2, none⟩)) ?_ ⟨.pointer (some ⟨g, p * 3 + 2, none⟩), rfl, hkeep 9 _ (Or.inl (by rw [HPV.out]; rfl)) hL, ?_⟩
                  · clear hP hS hat haft hkeep hL hg q10
                    generalize b.eval = ρ at *
                    go_simp
                  · simp only [getD_set_ne false (show 9 ≠ 6 by decide), getD_set_ne false (show 9 ≠ 7 by decide), getD_set_ne false (show 9 ≠ 10 by decide), Dag.turn_other vals (i := 9) (j := 6) _ (by decide), Dag.turn_other vals (i := 9) (j := 7) _ (by decide)]
                    exact hS
                | 10, _ =>
                  injection ho with ho
                  subst ho
                  have e115 : b.eval (.tmp 115) = .pointer (some ⟨g, p * 3 + 2, none⟩) := (hat.new 9 _ 115 (haft ⟨9, .data⟩ (by simp) rfl) rfl rfl).trans (hP 9 _ (by rw [HPV.out]; rfl) (haft ⟨9, .data⟩ (by simp) rfl))
                  have e113 : b.eval (.tmp 113) = vals 7 := hat.new 7 _ 113 (haft ⟨7, .data⟩ (by simp) rfl) rfl rfl
                  have l7 : Lf.getD 7 false = true := haft ⟨7, .data⟩ (by simp) rfl
                  have lb : Lf.getD 6 false = true := hat.closed 7 _ l7 rfl ⟨6, .data⟩ (by simp) rfl
                  rw [lb, l7, Dag.off hL] at hS
                  have hg := hS.g rfl
                  obtain ⟨q0, qz, qs, qx, qxs, qa0, qa1, qas⟩ := HGc.out wx hg
                  obtain ⟨gQ, gcQ, hva, _⟩ := hS.c rfl rfl
                  have hput := hS.put
                  rw [hva] at hput
                  have ev := e113.trans hva
                  refine Dag.skips (w' := wx.setCell (⟨g, p * 3 + 2, none⟩) (.slice (some ⟨gQ, 0, none⟩) (QL + 1) gcQ)) ?_ ⟨_, rfl, hkeep 10 _ (Or.inr (by rw [HPV.out]; rfl)) hL, ?_⟩
                  · clear hP hS hat haft hkeep hL hg hput e113 hva
                    generalize b.eval = ρ at *
                    go_simp
                  rw [Dag.on hL]
                  simp only [getD_set_ne false (show 10 ≠ 6 by decide), getD_set_ne false (show 10 ≠ 7 by decide), Dag.turn_other vals (i := 10) (j := 6) _ (by decide), Dag.turn_other vals (i := 10) (j := 7) _ (by decide)]
                  rw [lb, l7, hva]
                  exact hput
                | i + 11, h => exact absurd h (by simp)
              · intro Lf vals wx hall hR
                obtain ⟨hP, hS⟩ := hR
                rw [hall 6 (by simp), hall 7 (by simp), hall 10 (by simp)] at hS
                obtain ⟨w1, hwx, gQ, gcQ, hva, hown, hatg, hgrow⟩ := hS.d rfl
                have hvb := hS.b rfl
                have u0 := hP 0 _ (by rw [HPV.out]; rfl) (hall 0 (by simp))
                have u1 := hP 1 _ (by rw [HPV.out]; rfl) (hall 1 (by simp))
                have u2 := hP 2 _ (by rw [HPV.out]; rfl) (hall 2 (by simp))
                have u3 := hP 3 _ (by rw [HPV.out]; rfl) (hall 3 (by simp))
                have u4 := hP 4 _ (by rw [HPV.out]; rfl) (hall 4 (by simp))
                have u5 := hP 5 _ (by rw [HPV.out]; rfl) (hall 5 (by simp))
                have u8 := hP 8 _ (by rw [HPV.out]; rfl) (hall 8 (by simp))
                have u9 := hP 9 _ (by rw [HPV.out]; rfl) (hall 9 (by simp))
                simp only [Dag.all, List.size_toArray, List.length_cons, List.length_nil, Nat.reduceAdd, List.getElem?_toArray, List.getElem?_cons_zero, List.getElem?_cons_succ, Option.bind_some]
                rw [u0, u1, u2, u3, u4, u5, u8, u9, hvb, hva]
                rw [hva] at hown hwx
                have HR2 := box (HFin2.out _ _ _ hown hatg hgrow)
                rw [hwx]
                clear hP hS hall hown hgrow hatg hwx hvb hva
                go_wp2_with fail
                go_meet
                exact HR2
            case rest =>
              have HG9 := hcut
              cases hs0 with
              | false =>
                go_step
                go_wp2_with fail
                rw [← HPost.out]
                have hl9 : (t.set p (LkM.askItem t[p] ⟨tx, mode⟩).1).length = N := by rw [List.length_set, HN.out]
                refine ⟨by rw [HTb.out]; exact HS8.out.1.trans (HG9.out.below Tb (by omega) (by omega) (by omega)), Or.inr ⟨HE0.out, some ⟨g, 0, none⟩, tc, ?_, ?_⟩⟩
                · rw [HOld.out, hl9, hai.out]
                · rw [HOld.out, hai.out, if_neg (by simp)]
                  refine (LkM.que_fin HS8.out.2.1 (by rw [HN.out]; omega) rfl hpl ?_).mono (by rw [HTb.out]; omega)
                  rw [f2]
                  exact HG9.out
              | true =>
                obtain ⟨qa9, qc9, hown9, hcell9, hat9⟩ := HG9.out.row
                have hql9 : (queue ++ [(⟨tx, mode⟩ : LkM)]).length = QL + 1 := by rw [List.length_append, List.length_singleton, HQL.out]
                rw [hql9] at hown9 hcell9 hat9
                obtain ⟨q9, qcc, hform, _, _⟩ := World.ownsRow.form hown9 (by omega)
                injection hform with hform _ hc9
                subst hform hc9
                rw [show p * 3 + 1 + 1 = p * 3 + 2 by omega] at hcell9
                have hb9 := HG9.out.below 0 (Nat.zero_le _) (Nat.zero_le _) (Nat.zero_le _)
                have hsz9 : V8.heap.size ≤ wc.heap.size := hb9.size
                have hXg : Xb ≠ g := fun e => by
                  have := HS8.out.2.2.2.1.ne_own HS8.out.2.1.tab (by decide)
                  exact this (by rw [e]; rfl)
                have hAg : Ab ≠ g := fun e => by
                  have := HS8.out.2.2.1.ne_own HS8.out.2.1.tab (by decide)
                  exact this (by rw [e]; rfl)
                have hXq := HS8.out.2.2.2.1.ne_own HOwQ.out (by decide)
                have hAq : (Value.slice qa QL qc).ownBlock ≠ some Ab := fun e => by
                  have := HLtA.out (2 * p + 1) (by omega) Ab (by rw [f2]; exact e)
                  omega
                have HX9 : Blk wc Xb 144 [.pointer (some ⟨g, p * 3, none⟩)] := (HG9.out.heap Xb hXs hXg hXq).trans HS8.out.2.2.2.1
                have HA9 : Blk wc Ab 137 [.int .i64 tx, .int .i64 mode] := (HG9.out.heap Ab hAs hAg hAq).trans HS8.out.2.2.1
                obtain ⟨_, _, e9, e9m, hinH, e9p, e9q⟩ := LksIn.own HOwH.out
                clear e9m e9p e9q
                injection e9 with e9 e9n e9'
                clear e9n
                subst e9 e9'
                have hH9 : LksIn wc B ha held := LkM.lks_moved (n := HL) (c := hc) hinH (fun b hb => HG9.out.heap b (HOwH.out.lt b hb).2 (fun e => HNeH.out (by rw [hb, e])) (fun e => HS8.out.2.1.fam.apart (2 * p) (2 * p + 1) (by omega) (by omega) (by omega) b (by rw [f1]; exact hb) (by rw [f2]; exact e))) hsz9
                have h1c9 : wc.cell? ⟨g, p * 3 + 1, none⟩ = some (.slice ha HL hc) := (HG9.out.cells (p * 3 + 1) (by omega)).trans D1.out
                have hz9 : wc.frozen? ⟨g, p * 3 + 2, none⟩ = false := (HG9.out.frozen _).trans (HZf.out _)
                have hg9 : g < wc.heap.size := by omega
                have HOw9 := box hown9; have HAt9 := box hat9; have HC9 := box hcell9; have HC91 := box h1c9; have HZ9 := box hz9; have HXb9 := box HX9; have HAb9 := box HA9; have HH9 := box hH9.at
                have hqn : q9 ≠ g := fun e => by
                  rcases hat9 with h | ⟨b, h, h2⟩
                  · exact HNeQ.out (by rw [← h, ← e]; rfl)
                  · have : q9 = b := Option.some.inj h
                    omega
                obtain ⟨V9, hV9⟩ : ∃ x, x = wc := ⟨_, rfl⟩
                rw [← hV9] at HG9 HOw9 HC9 HC91 HZ9 HXb9 HAb9 HH9 hsz9 hg9 ⊢
                clear hV9 hown9 hat9 hcell9 h1c9 hz9 HX9 HA9 hH9 hinH hcut hb9
                clear x0 hXs a0 a1 hAs
                have x0 := HXb9.out.cell (i := 0) rfl
                have hXs := HXb9.out.lt
                obtain ⟨Nb, HNb⟩ : ∃ x, Box (V9.heap.size = x) := ⟨_, ⟨rfl⟩⟩
                have HL0 : Box (Below Nb V9 (V9.alloc (.cells #[.int .i64 0] 3)) ∧ Blk (V9.alloc (.cells #[.int .i64 0] 3)) Nb 3 [.int .i64 0]) := ⟨by
                  rw [← HNb.out]
                  exact ⟨(Below.refl _ _).alloc (Nat.le_refl _) _, Blk.new _ _ _⟩⟩
                go_step
                go_wp2_with fail
                rw [HNb.out]
                have hNV : V8.heap.size ≤ Nb := by have := HNb.out; omega
                have hgN : g < Nb := by have := HNb.out; omega
                have hXN : Xb < Nb := by have := HNb.out; omega
                have hAN : Ab < Nb := by have := HNb.out; have := HAb9.out.lt; omega
                clear x0 hXs
                go_loopg [117] QL (fun f _ wr => ∃ n : Nat, f + n = QL ∧ Box ((∀ j (hj : j < queue.length), j < n → LkM.has held queue[j].tx = true) ∧ Below Nb V9 wr ∧ Blk wr Nb 3 [.int .i64 (n : Int)]))
                case atStart => exact ⟨0, rfl, ⟨fun j _ h => by omega, HL0.out⟩⟩
                case round =>
                  obtain ⟨n, hfn, HR⟩ := hrel
                  clear HL0
                  have n0 := HR.out.2.2.cell (i := 0) rfl
                  have hNs := HR.out.2.2.lt
                  have hXw := HXb9.out.below HR.out.2.1 hXN
                  have x0 := hXw.cell (i := 0) rfl
                  have hXs := hXw.lt
                  have k1 := (HR.out.2.1.cell (p := ⟨g, p * 3 + 1, none⟩) hgN).trans HC91.out
                  have k2 := (HR.out.2.1.cell (p := ⟨g, p * 3 + 2, none⟩) hgN).trans HC9.out
                  have hgw : g < wr.heap.size := by omega
                  have hw1 : IntKind.i64.wrap ((QL : Int) + 1 - 1) = (QL : Int) := (IntWalk.i64_in _ (by omega)).trans (by omega)
                  have hw2 : IntKind.i64.wrap (QL : Int) = (QL : Int) := IntWalk.i64_in _ (by omega)
                  have HQA : Box (LksAt V9 (some ⟨q9, 0, none⟩) (queue ++ [⟨tx, mode⟩])) := ⟨by
                    obtain ⟨_, _, e9, _, hat, _, _⟩ := LksAt.own HOw9.out
                    injection e9 with e9
                    subst e9
                    exact hat⟩
                  obtain ⟨c, Hc⟩ : ∃ c : Bool, Box ((c = true → n < QL ∧ ∀ j (hj : j < queue.length), j < n + 1 → LkM.has held queue[j].tx = true) ∧ (c = false → LkM.ahead held queue = n) ∧ (∀ h : n < queue.length, LkM.has held queue[n].tx = c) ∧ (¬ n < queue.length → c = false)) := by
                    by_cases hnq : n < queue.length
                    · refine ⟨LkM.has held queue[n].tx, ⟨⟨fun e => ⟨by rw [← HQL.out]; exact hnq, fun j hj hjn => ?_⟩, fun e => LkM.ahead_eq (by omega) HR.out.1 (fun _ => e), fun _ => rfl, fun h => absurd hnq h⟩⟩⟩
                      by_cases e2 : j = n
                      · subst e2; exact e
                      · exact HR.out.1 j hj (by omega)
                    · exact ⟨false, ⟨⟨fun e => absurd e (by simp), fun _ => LkM.ahead_eq (by have := HQL.out; omega) HR.out.1 (fun h => absurd h hnq), fun h => absurd h hnq, fun _ => rfl⟩⟩⟩
                  go_upto_region 25 with (fail)
                  go_cut [132] (fun s132 wx => s132 = .bool c ∧ Box (Below wr.heap.size wr wx))
                  case first => as_aux_lemma =>
                    by_cases hnQ : n < QL
                    · have hnq : n < queue.length := by rw [HQL.out]; exact hnQ
                      have d5 : decide (n < QL) = true := by simpa using hnQ
                      have hfx : (queue ++ [(⟨tx, mode⟩ : LkM)])[n]'(by rw [List.length_append]; omega) = queue[n] := List.getElem_append_left hnq
                      have HCf := box (fun (wx : World) (hb : Below wr.heap.size wr wx) => containsFunc_lks held ha hc 77 #[.pointer (some ⟨Xb, 0, none⟩), .pointer (some ⟨Nb, 0, none⟩)] (fun h => h.tx == queue[n].tx) wx ((HH9.out.below (HR.out.2.1.trans (hb.mono (by omega))) (by rw [HNb.out]; exact Nat.le_refl _))) (by have := HHL.out; omega) (fun W hW o _ => by
                        have hWr : Below Nb V9 W := HR.out.2.1.trans ((hb.trans (hW.mono hb.size)).mono (by omega))
                        have hq := ask_f4 W o (queue ++ [⟨tx, mode⟩]) Xb Nb g (p * 3) n qc9 (some ⟨q9, 0, none⟩) ((HXb9.out.below hWr hXN).cell rfl) (HXb9.out.below hWr hXN).lt (((HR.out.2.2.after hb).after hW).cell rfl) ((HR.out.2.2.after hb).after hW).lt (by rw [hql9]; exact (hWr.cell (p := ⟨g, p * 3 + 2, none⟩) hgN).trans HC9.out) (Nat.lt_of_lt_of_le hgN (by have := hWr.size; have := HNb.out; omega)) (HQA.out.below hWr (by rw [HNb.out]; exact Nat.le_refl _)) (by rw [List.length_append]; omega)
                        rw [hfx] at hq
                        exact hq) (enters_fn Tryz.func77 (by kernel_rfl) rfl))
                      have hhas : (held.any fun h => h.tx == queue[n].tx) = LkM.has held queue[n].tx := rfl
                      rw [hhas, Hc.out.2.2.1 hnq, HHL.out] at HCf
                      clear hfx hhas hnq
                      go_region_with (go_at_call 68; refine (HCf.out _ (by first | exact Below.refl _ _ | exact (Below.refl _ _).drew)).mono ?_; rintro e w' ⟨rfl, hb'⟩; have hbx : Below wr.heap.size wr w' := (by first | exact hb' | exact (Below.refl wr.heap.size wr).drew.trans hb'))
                      all_goals (have HBx := box hbx)
                      all_goals (clear hb' hbx)
                      all_goals (go_wp2_with fail)
                      all_goals go_meet
                      all_goals first
                        | exact ⟨rfl, HBx⟩
                        | exact ⟨rfl, ⟨HBx.out.drew⟩⟩
                    · have hcf := Hc.out.2.2.2 (by rw [HQL.out]; exact hnQ)
                      subst hcf
                      have d5 : decide (n < QL) = false := by simpa using hnQ
                      go_quiet (fail)
                      go_wp2_with fail
                      go_meet
                      exact ⟨rfl, ⟨(Below.refl wr.heap.size wr).trans ⟨rfl, rfl, rfl, Nat.le_refl _, fun _ _ => rfl⟩⟩⟩
                  case rest =>
                    obtain ⟨rfl, HBc⟩ := hcut
                    have HSc : Box (Below Nb V9 wc ∧ Blk wc Nb 3 [.int .i64 (n : Int)]) := ⟨HR.out.2.1.trans (HBc.out.mono (by omega)), HR.out.2.2.after HBc.out⟩
                    clear n0 x0 k1 k2 hXw hXs hgw hNs hw1 hw2
                    have n0 := HSc.out.2.cell (i := 0) rfl
                    have hns := HSc.out.2.lt
                    cases c with
                    | true =>
                      have HNy := box (Hc.out.1 rfl).2
                      have hnQ := (Hc.out.1 rfl).1
                      have nz := HSc.out.2.frozen 0
                      have HSet : Box (∀ u : Int, u = ((n + 1 : Nat) : Int) → Below Nb V9 (wc.setCell ⟨Nb, 0, none⟩ (.int .i64 u)) ∧ Blk (wc.setCell ⟨Nb, 0, none⟩ (.int .i64 u)) Nb 3 [.int .i64 ((n + 1 : Nat) : Int)]) := ⟨fun u hu => by
                        rw [hu]
                        exact ⟨HSc.out.1.setCell (Nat.le_refl _) _, HSc.out.2.set 0 _⟩⟩
                      go_step
                      go_wp2_with fail
                      go_roundg (gk - 1)
                      case measure => omega
                      case rel => exact ⟨n + 1, by omega, ⟨HNy.out, HSet.out _ (by omega)⟩⟩
                    | false =>
                      have HAx := box (Hc.out.2.1 rfl)
                      have hXw := HXb9.out.below HSc.out.1 hXN
                      have hAw := HAb9.out.below HSc.out.1 hAN
                      have HXw := box hXw
                      have x0 := hXw.cell (i := 0) rfl
                      have hXs := hXw.lt
                      have a0 := hAw.cell (i := 0) rfl
                      have a1 := hAw.cell (i := 1) rfl
                      have hAs := hAw.lt
                      have k2 := (HSc.out.1.cell (p := ⟨g, p * 3 + 2, none⟩) hgN).trans HC9.out
                      have hgw : g < wc.heap.size := by omega
                      have hw1 : IntKind.i64.wrap ((QL : Int) + 1 - 1) = (QL : Int) := (IntWalk.i64_in _ (by omega)).trans (by omega)
                      have hw2 : IntKind.i64.wrap (QL : Int) = (QL : Int) := IntWalk.i64_in _ (by omega)
                      have hown10 : wc.ownsRow B 137 2 (.slice (some ⟨q9, 0, none⟩) (QL + 1) qc9) (QL + 1) (lkVals (queue ++ [⟨tx, mode⟩])) := ownsRow_below HOw9.out (by rw [HNb.out]; exact HSc.out.1)
                      have hfront : wc.ownsRow B 137 2 (.slice (some ⟨q9, 0, none⟩) QL qc9) QL (lkVals queue) := by
                        have h1 := row_front hown10 (show QL ≤ QL + 1 by omega)
                        rw [lkVals_take, List.take_append_of_le_length (by rw [HQL.out]; exact Nat.le_refl _), List.take_of_length_le (by rw [HQL.out]; exact Nat.le_refl _)] at h1
                        exact h1
                      have hqc : QL + 1 ≤ qc9 := by
                        obtain ⟨_, _, e9, _, _, _, h9⟩ := LksAt.own hown10
                        injection e9 with _ _ e9
                        rw [hql9] at h9
                        omega
                      have hq9s := (hown10.lt q9 rfl).2
                      have HKq : Box (∀ wx, Below wc.heap.size wc wx → wx.cell? ⟨g, p * 3 + 2, none⟩ = some (.slice (some ⟨q9, 0, none⟩) (QL + 1) qc9) ∧ wx.cell? ⟨Nb, 0, none⟩ = some (.int .i64 (n : Int)) ∧ wx.cell? ⟨Ab, 0, none⟩ = some (.int .i64 tx) ∧ wx.cell? ⟨Ab, 1, none⟩ = some (.int .i64 mode)) := ⟨fun wx hb => ⟨(hb.cell (p := ⟨g, p * 3 + 2, none⟩) hgw).trans k2, (HSc.out.2.after hb).cell rfl, (hAw.after hb).cell rfl, (hAw.after hb).cell rfl⟩⟩
                      have HIns : Box (∀ wx b1, Below wc.heap.size wc wx → Blk wx b1 137 [.int .i64 tx, .int .i64 mode] → wc.heap.size ≤ b1 → Calls Tryz.prog 78 #[.slice (some ⟨q9, 0, none⟩) QL qc9, .int .i64 (n : Int), .slice (some ⟨b1, 0, none⟩) 1 1] wx (InsPost_lk B QL n (.slice (some ⟨q9, 0, none⟩) QL qc9) (lkVals queue) [.int .i64 tx, .int .i64 mode] wx)) := ⟨fun wx b1 hb hB1 hle =>
                        insert_any_lk B QL n (.slice (some ⟨q9, 0, none⟩) QL qc9) (lkVals queue) [.int .i64 tx, .int .i64 mode] b1 wx (ownsRow_below hfront hb) (by omega) hB1 (by intro e; have : q9 = b1 := Option.some.inj e; omega) rfl (by simp [Value.oneCell']) (lkVals_one queue) (by have := hb.size; omega) (by omega)⟩
                      have HMid : Box (∀ wx w' gg gcap, Below wc.heap.size wc wx → w'.ownsRow B 137 2 (.slice (some ⟨gg, 0, none⟩) (QL + 1) gcap) (QL + 1) ((lkVals queue).take (n * 2) ++ [.int .i64 tx, .int .i64 mode] ++ (lkVals queue).drop (n * 2)) → wx.grownBy w' (some q9) → (some q9 = some gg ∨ gg = wx.heap.size) →
                          w'.cell? ⟨Xb, 0, none⟩ = some (.pointer (some ⟨g, p * 3, none⟩)) ∧ (∃ u, w'.cell? ⟨g, p * 3 + 2, none⟩ = some u) ∧ w'.frozen? ⟨g, p * 3 + 2, none⟩ = false ∧ LkM.GiveP V8 B g (p * 3 + 1) (.slice qa QL qc) (queue.take n ++ ⟨tx, mode⟩ :: queue.drop n) (w'.setCell ⟨g, p * 3 + 2, none⟩ (.slice (some ⟨gg, 0, none⟩) (QL + 1) gcap))) := ⟨fun wx w' gg gcap hb h1 h2 h3 => by
                        have hgA : g < wx.heap.size := Nat.lt_of_lt_of_le hgw hb.size
                        have h7 := (h2.block g hgA (fun e => by injection e with e; exact hqn e.symm)).trans ((hb.block g hgw).trans (HSc.out.1.block g hgN))
                        have hx := (hXw.after hb).grown h2 (fun e => by
                          have := hXw.ne_own hown10 (by decide)
                          exact this (by injection e with e; rw [← e]; rfl))
                        have hl : (queue.take n ++ (⟨tx, mode⟩ : LkM) :: queue.drop n).length = QL + 1 := by rw [List.length_append, List.length_cons, List.length_take, List.length_drop, HQL.out]; omega
                        rw [← lkVals_mid queue ⟨tx, mode⟩ n, ← hl] at h1
                        have hV9A : Below V9.heap.size V9 wx := (by rw [HNb.out]; exact HSc.out.1 : Below V9.heap.size V9 wc).trans (hb.mono (by have := HNb.out; have := HSc.out.1.size; omega))
                        have hWs : V8.heap.size ≤ wx.heap.size := by have := hV9A.size; omega
                        have := LkM.GiveP.again HG9.out hV9A hg8 (fun b hb => (HOwQ.out.lt b hb).1) ⟨_, (hV9A.cell (p := ⟨g, p * 3 + 2, none⟩) hg9).trans HC9.out⟩ h1 h2 (by
                          rcases HAt9.out with h | ⟨b, h, h2⟩
                          · exact Or.inl h.symm
                          · have : q9 = b := Option.some.inj h
                            exact Or.inr (by omega)) (by
                          rcases h3 with h | h
                          · exact Or.inl (Option.some.inj h).symm
                          · exact Or.inr (by omega)) hqn
                        rw [hl] at this
                        exact ⟨hx.cell rfl, ⟨_, (World.cell?_of_block (a := ⟨g, p * 3 + 2, none⟩) h7).trans HC9.out⟩, (World.frozen?_of_block (a := ⟨g, p * 3 + 2, none⟩) h7).trans HZ9.out, this⟩⟩
                      have hqc2 : QL ≤ qc9 := by omega
                      have hqc3 : (QL : Int) ≤ (qc9 : Int) := by omega
                      have hqc4 : (0 : Int) ≤ (QL : Int) := by omega
                      clear hXw hAw hown10 hfront
                      go_step
                      go_upto_region 27 with (fail)
                      go_cut [150] (fun _ wx => Box (LkM.GiveP V8 B g (p * 3 + 1) (.slice qa QL qc) (queue.take n ++ ⟨tx, mode⟩ :: queue.drop n) wx))
                      case first => as_aux_lemma =>
                        obtain ⟨PV, HPV⟩ : ∃ PV : Nat → Option Value, Box (PV = fun i => ([some (.pointer (some ⟨g, p * 3, none⟩)), some (.pointer (some ⟨g, p * 3, none⟩)), some (.pointer (some ⟨g, p * 3, none⟩)), some (.pointer (some ⟨g, p * 3 + 2, none⟩)), some (.slice (some ⟨q9, 0, none⟩) (QL + 1) qc9), some (.pointer (some ⟨g, p * 3, none⟩)), some (.pointer (some ⟨g, p * 3, none⟩)), some (.pointer (some ⟨g, p * 3 + 2, none⟩)), some (.slice (some ⟨q9, 0, none⟩) (QL + 1) qc9), some (.int .i64 ((QL : Int) + 1)), some (.int .i64 (QL : Int)), some (.slice (some ⟨q9, 0, none⟩) QL qc9), some (.int .i64 (n : Int)), some (.agg #[.int .i64 tx, .int .i64 mode]), none, none, some (.pointer (some ⟨g, p * 3, none⟩)), some (.pointer (some ⟨g, p * 3 + 2, none⟩)), none] : List (Option Value)).getD i none) := ⟨_, ⟨rfl⟩⟩
                        refine wp_region_dagv (by kernel_rfl) (fun Lf vals wx => (∀ i v, PV i = some v → Lf.getD i false = true → vals i = v) ∧ LkM.InsS wc V8 B g p QL Xb (.slice qa QL qc) (queue.take n ++ ⟨tx, mode⟩ :: queue.drop n) tx mode (Lf.getD 14 false) (Lf.getD 15 false) (Lf.getD 18 false) (vals 14) (vals 15) wx) (by kernel_rfl) ?_ ?_ ?_
                        · refine ⟨fun i v _ h => absurd h (by simp [Array.getD_eq_getD_getElem?, Array.getElem?_replicate]; try (split <;> simp)), ?_⟩
                          simp only [Array.getD_eq_getD_getElem?, Array.getElem?_replicate, List.size_toArray, List.length_cons, List.length_nil, Nat.reduceAdd, Nat.reduceLT, if_true, Option.getD_some]
                          exact ⟨fun _ => (Below.refl _ _).drew, fun h => (by cases h), fun _ => x0, fun h => (by cases h), fun h => (by cases h)⟩
                        · intro i hi o ho Lf vals b wx hat haft hL hR
                          obtain ⟨hP, hS⟩ := hR
                          have hco := hat.const
                          have hkeep : ∀ i v, (PV i = some v ∨ PV i = none) → Lf.getD i true = false → (∀ j u, PV j = some u → (Lf.setIfInBounds i true).getD j false = true → Dag.turn vals i v j = u) := fun i v hv hL j u hu hj => by
                            by_cases e : j = i
                            · subst e; rw [Dag.turn_same]; rcases hv with hv | hv <;> rw [hv] at hu <;> simp at hu; exact hu
                            · rw [Dag.turn_other _ _ e]; rw [getD_set_ne false (Ne.symm e)] at hj; exact hP j u hu hj
                          have r18 : b.eval (.tmp 18) = .pointer (some ⟨Xb, 0, none⟩) := hat.old 18 (by
                            intro j o' hj
                            match j with
                            | 0 | 1 | 2 | 3 | 4 | 5 | 6 | 7 | 8 | 9 | 10 | 11 | 12 | 13 | 14 | 15 | 16 | 17 | 18 => injection hj with hj; subst hj; simp
                            | j + 19 => cases hj)
                          have r20 : b.eval (.tmp 20) = .pointer (some ⟨Nb, 0, none⟩) := hat.old 20 (by
                            intro j o' hj
                            match j with
                            | 0 | 1 | 2 | 3 | 4 | 5 | 6 | 7 | 8 | 9 | 10 | 11 | 12 | 13 | 14 | 15 | 16 | 17 | 18 => injection hj with hj; subst hj; simp
                            | j + 19 => cases hj)
                          have r15 : b.eval (.tmp 15) = .pointer (some ⟨Ab, 0, none⟩) := hat.old 15 (by
                            intro j o' hj
                            match j with
                            | 0 | 1 | 2 | 3 | 4 | 5 | 6 | 7 | 8 | 9 | 10 | 11 | 12 | 13 | 14 | 15 | 16 | 17 | 18 => injection hj with hj; subst hj; simp
                            | j + 19 => cases hj)
                          have hcx : Lf.getD 18 false = false → wx.cell? ⟨Xb, 0, none⟩ = some (.pointer (some ⟨g, p * 3, none⟩)) := hS.ptr
                          have hcq : Lf.getD 15 false = false → wx.cell? ⟨g, p * 3 + 2, none⟩ = some (.slice (some ⟨q9, 0, none⟩) (QL + 1) qc9) ∧ wx.cell? ⟨Nb, 0, none⟩ = some (.int .i64 (n : Int)) ∧ wx.cell? ⟨Ab, 0, none⟩ = some (.int .i64 tx) ∧ wx.cell? ⟨Ab, 1, none⟩ = some (.int .i64 mode) := fun h => HKq.out wx (hS.pre h)
                          match i, hi with
                          | 0, _ =>
                            injection ho with ho
                            subst ho
                            have h16 : Lf.getD 16 false = false := by
                              cases h : Lf.getD 16 false with
                              | false => rfl
                              | true => have := hat.closed 16 _ h rfl ⟨0, .data⟩ (by simp) rfl; rw [Dag.off hL] at this; cases this
                            have h17 : Lf.getD 17 false = false := by
                              cases h : Lf.getD 17 false with
                              | false => rfl
                              | true => have := hat.closed 17 _ h rfl ⟨16, .data⟩ (by simp) rfl; rw [h16] at this; cases this
                            have h18 : Lf.getD 18 false = false := by
                              cases h : Lf.getD 18 false with
                              | false => rfl
                              | true => have := hat.closed 18 _ h rfl ⟨17, .data⟩ (by simp) rfl; rw [h17] at this; cases this
                            have x0 := hcx h18
                            refine Dag.yields (w' := wx) (.pointer (some ⟨g, p * 3, none⟩)) ?_ ⟨.pointer (some ⟨g, p * 3, none⟩), rfl, hkeep 0 _ (Or.inl (by rw [HPV.out]; rfl)) hL, ?_⟩
                            · clear hP hS hat haft hkeep hL hcx hcq
                              generalize b.eval = ρ at *
                              go_simp
                            simp only [getD_set_ne false (show 0 ≠ 14 by decide), getD_set_ne false (show 0 ≠ 15 by decide), getD_set_ne false (show 0 ≠ 18 by decide), Dag.turn_other vals (i := 0) (j := 14) _ (by decide), Dag.turn_other vals (i := 0) (j := 15) _ (by decide)]
                            exact hS
                          | 1, _ =>
                            injection ho with ho
                            subst ho
                            have h2 : Lf.getD 2 false = false := by
                              cases h : Lf.getD 2 false with
                              | false => rfl
                              | true => have := hat.closed 2 _ h rfl ⟨1, .data⟩ (by simp) rfl; rw [Dag.off hL] at this; cases this
                            have h3 : Lf.getD 3 false = false := by
                              cases h : Lf.getD 3 false with
                              | false => rfl
                              | true => have := hat.closed 3 _ h rfl ⟨2, .data⟩ (by simp) rfl; rw [h2] at this; cases this
                            have h4 : Lf.getD 4 false = false := by
                              cases h : Lf.getD 4 false with
                              | false => rfl
                              | true => have := hat.closed 4 _ h rfl ⟨3, .data⟩ (by simp) rfl; rw [h3] at this; cases this
                            have h11 : Lf.getD 11 false = false := by
                              cases h : Lf.getD 11 false with
                              | false => rfl
                              | true => have := hat.closed 11 _ h rfl ⟨4, .data⟩ (by simp) rfl; rw [h4] at this; cases this
                            have h15 : Lf.getD 15 false = false := by
                              cases h : Lf.getD 15 false with
                              | false => rfl
                              | true => have := hat.closed 15 _ h rfl ⟨11, .data⟩ (by simp) rfl; rw [h11] at this; cases this
                            have h18 : Lf.getD 18 false = false := by
                              cases h : Lf.getD 18 false with
                              | false => rfl
                              | true => have := hat.closed 18 _ h rfl ⟨15, .data⟩ (by simp) rfl; rw [h15] at this; cases this
                            have x0 := hcx h18
                            refine Dag.yields (w' := wx) (.pointer (some ⟨g, p * 3, none⟩)) ?_ ⟨.pointer (some ⟨g, p * 3, none⟩), rfl, hkeep 1 _ (Or.inl (by rw [HPV.out]; rfl)) hL, ?_⟩
                            · clear hP hS hat haft hkeep hL hcx hcq
                              generalize b.eval = ρ at *
                              go_simp
                            simp only [getD_set_ne false (show 1 ≠ 14 by decide), getD_set_ne false (show 1 ≠ 15 by decide), getD_set_ne false (show 1 ≠ 18 by decide), Dag.turn_other vals (i := 1) (j := 14) _ (by decide), Dag.turn_other vals (i := 1) (j := 15) _ (by decide)]
                            exact hS
                          | 2, _ =>
                            injection ho with ho
                            subst ho
                            have e136 : b.eval (.tmp 136) = .pointer (some ⟨g, p * 3, none⟩) := (hat.new 1 _ 136 (haft ⟨1, .data⟩ (by simp) rfl) rfl rfl).trans (hP 1 _ (by rw [HPV.out]; rfl) (haft ⟨1, .data⟩ (by simp) rfl))
                            refine Dag.yields (w' := wx) (.pointer (some ⟨g, p * 3, none⟩)) ?_ ⟨.pointer (some ⟨g, p * 3, none⟩), rfl, hkeep 2 _ (Or.inl (by rw [HPV.out]; rfl)) hL, ?_⟩
                            · clear hP hS hat haft hkeep hL
                              generalize b.eval = ρ at *
                              go_simp
                            · simp only [getD_set_ne false (show 2 ≠ 14 by decide), getD_set_ne false (show 2 ≠ 15 by decide), getD_set_ne false (show 2 ≠ 18 by decide), Dag.turn_other vals (i := 2) (j := 14) _ (by decide), Dag.turn_other vals (i := 2) (j := 15) _ (by decide)]
                              exact hS
                          | 3, _ =>
                            injection ho with ho
                            subst ho
                            have e137 : b.eval (.tmp 137) = .pointer (some ⟨g, p * 3, none⟩) := (hat.new 2 _ 137 (haft ⟨2, .data⟩ (by simp) rfl) rfl rfl).trans (hP 2 _ (by rw [HPV.out]; rfl) (haft ⟨2, .data⟩ (by simp) rfl))
                            refine Dag.yields (w' := wx) (.pointer (some ⟨g, p * 3 + 2, none⟩)) ?_ ⟨.pointer (some ⟨g, p * 3 + 2, none⟩), rfl, hkeep 3 _ (Or.inl (by rw [HPV.out]; rfl)) hL, ?_⟩
                            · clear hP hS hat haft hkeep hL
                              generalize b.eval = ρ at *
                              go_simp
                            · simp only [getD_set_ne false (show 3 ≠ 14 by decide), getD_set_ne false (show 3 ≠ 15 by decide), getD_set_ne false (show 3 ≠ 18 by decide), Dag.turn_other vals (i := 3) (j := 14) _ (by decide), Dag.turn_other vals (i := 3) (j := 15) _ (by decide)]
                              exact hS
                          | 4, _ =>
                            injection ho with ho
                            subst ho
                            have e138 : b.eval (.tmp 138) = .pointer (some ⟨g, p * 3 + 2, none⟩) := (hat.new 3 _ 138 (haft ⟨3, .data⟩ (by simp) rfl) rfl rfl).trans (hP 3 _ (by rw [HPV.out]; rfl) (haft ⟨3, .data⟩ (by simp) rfl))
                            have h11 : Lf.getD 11 false = false := by
                              cases h : Lf.getD 11 false with
                              | false => rfl
                              | true => have := hat.closed 11 _ h rfl ⟨4, .data⟩ (by simp) rfl; rw [Dag.off hL] at this; cases this
                            have h15 : Lf.getD 15 false = false := by
                              cases h : Lf.getD 15 false with
                              | false => rfl
                              | true => have := hat.closed 15 _ h rfl ⟨11, .data⟩ (by simp) rfl; rw [h11] at this; cases this
                            obtain ⟨y0, y1, y2, y3⟩ := hcq h15
                            refine Dag.yields (w' := wx) (.slice (some ⟨q9, 0, none⟩) (QL + 1) qc9) ?_ ⟨.slice (some ⟨q9, 0, none⟩) (QL + 1) qc9, rfl, hkeep 4 _ (Or.inl (by rw [HPV.out]; rfl)) hL, ?_⟩
                            · clear hP hS hat haft hkeep hL hcx hcq
                              generalize b.eval = ρ at *
                              go_simp
                            simp only [getD_set_ne false (show 4 ≠ 14 by decide), getD_set_ne false (show 4 ≠ 15 by decide), getD_set_ne false (show 4 ≠ 18 by decide), Dag.turn_other vals (i := 4) (j := 14) _ (by decide), Dag.turn_other vals (i := 4) (j := 15) _ (by decide)]
                            exact hS
                          | 5, _ =>
                            injection ho with ho
                            subst ho
                            have h6 : Lf.getD 6 false = false := by
                              cases h : Lf.getD 6 false with
                              | false => rfl
                              | true => have := hat.closed 6 _ h rfl ⟨5, .data⟩ (by simp) rfl; rw [Dag.off hL] at this; cases this
                            have h7 : Lf.getD 7 false = false := by
                              cases h : Lf.getD 7 false with
                              | false => rfl
                              | true => have := hat.closed 7 _ h rfl ⟨6, .data⟩ (by simp) rfl; rw [h6] at this; cases this
                            have h8 : Lf.getD 8 false = false := by
                              cases h : Lf.getD 8 false with
                              | false => rfl
                              | true => have := hat.closed 8 _ h rfl ⟨7, .data⟩ (by simp) rfl; rw [h7] at this; cases this
                            have h9 : Lf.getD 9 false = false := by
                              cases h : Lf.getD 9 false with
                              | false => rfl
                              | true => have := hat.closed 9 _ h rfl ⟨8, .data⟩ (by simp) rfl; rw [h8] at this; cases this
                            have h10 : Lf.getD 10 false = false := by
                              cases h : Lf.getD 10 false with
                              | false => rfl
                              | true => have := hat.closed 10 _ h rfl ⟨9, .data⟩ (by simp) rfl; rw [h9] at this; cases this
                            have h11 : Lf.getD 11 false = false := by
                              cases h : Lf.getD 11 false with
                              | false => rfl
                              | true => have := hat.closed 11 _ h rfl ⟨10, .data⟩ (by simp) rfl; rw [h10] at this; cases this
                            have h15 : Lf.getD 15 false = false := by
                              cases h : Lf.getD 15 false with
                              | false => rfl
                              | true => have := hat.closed 15 _ h rfl ⟨11, .data⟩ (by simp) rfl; rw [h11] at this; cases this
                            have h18 : Lf.getD 18 false = false := by
                              cases h : Lf.getD 18 false with
                              | false => rfl
                              | true => have := hat.closed 18 _ h rfl ⟨15, .data⟩ (by simp) rfl; rw [h15] at this; cases this
                            have x0 := hcx h18
                            refine Dag.yields (w' := wx) (.pointer (some ⟨g, p * 3, none⟩)) ?_ ⟨.pointer (some ⟨g, p * 3, none⟩), rfl, hkeep 5 _ (Or.inl (by rw [HPV.out]; rfl)) hL, ?_⟩
                            · clear hP hS hat haft hkeep hL hcx hcq
                              generalize b.eval = ρ at *
                              go_simp
                            simp only [getD_set_ne false (show 5 ≠ 14 by decide), getD_set_ne false (show 5 ≠ 15 by decide), getD_set_ne false (show 5 ≠ 18 by decide), Dag.turn_other vals (i := 5) (j := 14) _ (by decide), Dag.turn_other vals (i := 5) (j := 15) _ (by decide)]
                            exact hS
                          | 6, _ =>
                            injection ho with ho
                            subst ho
                            have e140 : b.eval (.tmp 140) = .pointer (some ⟨g, p * 3, none⟩) := (hat.new 5 _ 140 (haft ⟨5, .data⟩ (by simp) rfl) rfl rfl).trans (hP 5 _ (by rw [HPV.out]; rfl) (haft ⟨5, .data⟩ (by simp) rfl))
                            refine Dag.yields (w' := wx) (.pointer (some ⟨g, p * 3, none⟩)) ?_ ⟨.pointer (some ⟨g, p * 3, none⟩), rfl, hkeep 6 _ (Or.inl (by rw [HPV.out]; rfl)) hL, ?_⟩
                            · clear hP hS hat haft hkeep hL
                              generalize b.eval = ρ at *
                              go_simp
                            · simp only [getD_set_ne false (show 6 ≠ 14 by decide), getD_set_ne false (show 6 ≠ 15 by decide), getD_set_ne false (show 6 ≠ 18 by decide), Dag.turn_other vals (i := 6) (j := 14) _ (by decide), Dag.turn_other vals (i := 6) (j := 15) _ (by decide)]
                              exact hS
                          | 7, _ =>
                            injection ho with ho
                            subst ho
                            have e141 : b.eval (.tmp 141) = .pointer (some ⟨g, p * 3, none⟩) := (hat.new 6 _ 141 (haft ⟨6, .data⟩ (by simp) rfl) rfl rfl).trans (hP 6 _ (by rw [HPV.out]; rfl) (haft ⟨6, .data⟩ (by simp) rfl))
                            refine Dag.yields (w' := wx) (.pointer (some ⟨g, p * 3 + 2, none⟩)) ?_ ⟨.pointer (some ⟨g, p * 3 + 2, none⟩), rfl, hkeep 7 _ (Or.inl (by rw [HPV.out]; rfl)) hL, ?_⟩
                            · clear hP hS hat haft hkeep hL
                              generalize b.eval = ρ at *
                              go_simp
                            · simp only [getD_set_ne false (show 7 ≠ 14 by decide), getD_set_ne false (show 7 ≠ 15 by decide), getD_set_ne false (show 7 ≠ 18 by decide), Dag.turn_other vals (i := 7) (j := 14) _ (by decide), Dag.turn_other vals (i := 7) (j := 15) _ (by decide)]
                              exact hS
                          | 8, _ =>
                            injection ho with ho
                            subst ho
                            have e142 : b.eval (.tmp 142) = .pointer (some ⟨g, p * 3 + 2, none⟩) := (hat.new 7 _ 142 (haft ⟨7, .data⟩ (by simp) rfl) rfl rfl).trans (hP 7 _ (by rw [HPV.out]; rfl) (haft ⟨7, .data⟩ (by simp) rfl))
                            have h9 : Lf.getD 9 false = false := by
                              cases h : Lf.getD 9 false with
                              | false => rfl
                              | true => have := hat.closed 9 _ h rfl ⟨8, .data⟩ (by simp) rfl; rw [Dag.off hL] at this; cases this
                            have h10 : Lf.getD 10 false = false := by
                              cases h : Lf.getD 10 false with
                              | false => rfl
                              | true => have := hat.closed 10 _ h rfl ⟨9, .data⟩ (by simp) rfl; rw [h9] at this; cases this
                            have h11 : Lf.getD 11 false = false := by
                              cases h : Lf.getD 11 false with
                              | false => rfl
                              | true => have := hat.closed 11 _ h rfl ⟨10, .data⟩ (by simp) rfl; rw [h10] at this; cases this
                            have h15 : Lf.getD 15 false = false := by
                              cases h : Lf.getD 15 false with
                              | false => rfl
                              | true => have := hat.closed 15 _ h rfl ⟨11, .data⟩ (by simp) rfl; rw [h11] at this; cases this
                            obtain ⟨y0, y1, y2, y3⟩ := hcq h15
                            refine Dag.yields (w' := wx) (.slice (some ⟨q9, 0, none⟩) (QL + 1) qc9) ?_ ⟨.slice (some ⟨q9, 0, none⟩) (QL + 1) qc9, rfl, hkeep 8 _ (Or.inl (by rw [HPV.out]; rfl)) hL, ?_⟩
                            · clear hP hS hat haft hkeep hL hcx hcq
                              generalize b.eval = ρ at *
                              go_simp
                            simp only [getD_set_ne false (show 8 ≠ 14 by decide), getD_set_ne false (show 8 ≠ 15 by decide), getD_set_ne false (show 8 ≠ 18 by decide), Dag.turn_other vals (i := 8) (j := 14) _ (by decide), Dag.turn_other vals (i := 8) (j := 15) _ (by decide)]
                            exact hS
                          | 9, _ =>
                            injection ho with ho
                            subst ho
                            have e143 : b.eval (.tmp 143) = .slice (some ⟨q9, 0, none⟩) (QL + 1) qc9 := (hat.new 8 _ 143 (haft ⟨8, .data⟩ (by simp) rfl) rfl rfl).trans (hP 8 _ (by rw [HPV.out]; rfl) (haft ⟨8, .data⟩ (by simp) rfl))
                            refine Dag.yields (w' := wx) (.int .i64 ((QL : Int) + 1)) ?_ ⟨.int .i64 ((QL : Int) + 1), rfl, hkeep 9 _ (Or.inl (by rw [HPV.out]; rfl)) hL, ?_⟩
                            · clear hP hS hat haft hkeep hL
                              generalize b.eval = ρ at *
                              go_simp
                            · simp only [getD_set_ne false (show 9 ≠ 14 by decide), getD_set_ne false (show 9 ≠ 15 by decide), getD_set_ne false (show 9 ≠ 18 by decide), Dag.turn_other vals (i := 9) (j := 14) _ (by decide), Dag.turn_other vals (i := 9) (j := 15) _ (by decide)]
                              exact hS
                          | 10, _ =>
                            injection ho with ho
                            subst ho
                            have e144 : b.eval (.tmp 144) = .int .i64 ((QL : Int) + 1) := (hat.new 9 _ 144 (haft ⟨9, .data⟩ (by simp) rfl) rfl rfl).trans (hP 9 _ (by rw [HPV.out]; rfl) (haft ⟨9, .data⟩ (by simp) rfl))
                            refine Dag.yields (w' := wx) (.int .i64 (QL : Int)) ?_ ⟨.int .i64 (QL : Int), rfl, hkeep 10 _ (Or.inl (by rw [HPV.out]; rfl)) hL, ?_⟩
                            · clear hP hS hat haft hkeep hL
                              generalize b.eval = ρ at *
                              go_simp
                            · simp only [getD_set_ne false (show 10 ≠ 14 by decide), getD_set_ne false (show 10 ≠ 15 by decide), getD_set_ne false (show 10 ≠ 18 by decide), Dag.turn_other vals (i := 10) (j := 14) _ (by decide), Dag.turn_other vals (i := 10) (j := 15) _ (by decide)]
                              exact hS
                          | 11, _ =>
                            injection ho with ho
                            subst ho
                            have e139 : b.eval (.tmp 139) = .slice (some ⟨q9, 0, none⟩) (QL + 1) qc9 := (hat.new 4 _ 139 (haft ⟨4, .data⟩ (by simp) rfl) rfl rfl).trans (hP 4 _ (by rw [HPV.out]; rfl) (haft ⟨4, .data⟩ (by simp) rfl))
                            have e145 : b.eval (.tmp 145) = .int .i64 (QL : Int) := (hat.new 10 _ 145 (haft ⟨10, .data⟩ (by simp) rfl) rfl rfl).trans (hP 10 _ (by rw [HPV.out]; rfl) (haft ⟨10, .data⟩ (by simp) rfl))
                            refine Dag.yields (w' := wx) (.slice (some ⟨q9, 0, none⟩) QL qc9) ?_ ⟨.slice (some ⟨q9, 0, none⟩) QL qc9, rfl, hkeep 11 _ (Or.inl (by rw [HPV.out]; rfl)) hL, ?_⟩
                            · clear hP hS hat haft hkeep hL
                              generalize b.eval = ρ at *
                              go_simp
                            · simp only [getD_set_ne false (show 11 ≠ 14 by decide), getD_set_ne false (show 11 ≠ 15 by decide), getD_set_ne false (show 11 ≠ 18 by decide), Dag.turn_other vals (i := 11) (j := 14) _ (by decide), Dag.turn_other vals (i := 11) (j := 15) _ (by decide)]
                              exact hS
                          | 12, _ =>
                            injection ho with ho
                            subst ho
                            have h15 : Lf.getD 15 false = false := by
                              cases h : Lf.getD 15 false with
                              | false => rfl
                              | true => have := hat.closed 15 _ h rfl ⟨12, .data⟩ (by simp) rfl; rw [Dag.off hL] at this; cases this
                            obtain ⟨y0, y1, y2, y3⟩ := hcq h15
                            refine Dag.yields (w' := wx) (.int .i64 (n : Int)) ?_ ⟨.int .i64 (n : Int), rfl, hkeep 12 _ (Or.inl (by rw [HPV.out]; rfl)) hL, ?_⟩
                            · clear hP hS hat haft hkeep hL hcx hcq
                              generalize b.eval = ρ at *
                              go_simp
                            simp only [getD_set_ne false (show 12 ≠ 14 by decide), getD_set_ne false (show 12 ≠ 15 by decide), getD_set_ne false (show 12 ≠ 18 by decide), Dag.turn_other vals (i := 12) (j := 14) _ (by decide), Dag.turn_other vals (i := 12) (j := 15) _ (by decide)]
                            exact hS
                          | 13, _ =>
                            injection ho with ho
                            subst ho
                            have h14 : Lf.getD 14 false = false := by
                              cases h : Lf.getD 14 false with
                              | false => rfl
                              | true => have := hat.closed 14 _ h rfl ⟨13, .data⟩ (by simp) rfl; rw [Dag.off hL] at this; cases this
                            have h15 : Lf.getD 15 false = false := by
                              cases h : Lf.getD 15 false with
                              | false => rfl
                              | true => have := hat.closed 15 _ h rfl ⟨14, .data⟩ (by simp) rfl; rw [h14] at this; cases this
                            obtain ⟨y0, y1, y2, y3⟩ := hcq h15
                            refine Dag.yields (w' := wx) (.agg #[.int .i64 tx, .int .i64 mode]) ?_ ⟨.agg #[.int .i64 tx, .int .i64 mode], rfl, hkeep 13 _ (Or.inl (by rw [HPV.out]; rfl)) hL, ?_⟩
                            · clear hP hS hat haft hkeep hL hcx hcq
                              generalize b.eval = ρ at *
                              go_simp
                            simp only [getD_set_ne false (show 13 ≠ 14 by decide), getD_set_ne false (show 13 ≠ 15 by decide), getD_set_ne false (show 13 ≠ 18 by decide), Dag.turn_other vals (i := 13) (j := 14) _ (by decide), Dag.turn_other vals (i := 13) (j := 15) _ (by decide)]
                            exact hS
                          | 14, _ =>
                            injection ho with ho
                            subst ho
                            have e148 : b.eval (.tmp 148) = .agg #[.int .i64 tx, .int .i64 mode] := (hat.new 13 _ 148 (haft ⟨13, .data⟩ (by simp) rfl) rfl rfl).trans (hP 13 _ (by rw [HPV.out]; rfl) (haft ⟨13, .data⟩ (by simp) rfl))
                            have h15 : Lf.getD 15 false = false := by
                              cases h : Lf.getD 15 false with
                              | false => rfl
                              | true => have := hat.closed 15 _ h rfl ⟨14, .data⟩ (by simp) rfl; rw [Dag.off hL] at this; cases this
                            have h18 : Lf.getD 18 false = false := by
                              cases h : Lf.getD 18 false with
                              | false => rfl
                              | true => have := hat.closed 18 _ h rfl ⟨15, .data⟩ (by simp) rfl; rw [h15] at this; cases this
                            rw [Dag.off hL, h15, h18] at hS
                            refine Dag.yields (w' := wx.alloc (.cells #[.int .i64 tx, .int .i64 mode] 137)) (.slice (some ⟨wx.heap.size, 0, none⟩) 1 1) ?_ ⟨_, rfl, hkeep 14 _ (Or.inr (by rw [HPV.out]; rfl)) hL, ?_⟩
                            · clear hP hS hat haft hkeep hL hcx hcq
                              generalize b.eval = ρ at *
                              go_simp
                            rw [Dag.on hL]
                            simp only [getD_set_ne false (show 14 ≠ 15 by decide), getD_set_ne false (show 14 ≠ 18 by decide), Dag.turn_same, Dag.turn_other vals (i := 14) (j := 15) _ (by decide)]
                            rw [h15, h18]
                            exact hS.lay hXs
                          | 15, _ =>
                            injection ho with ho
                            subst ho
                            have e146 : b.eval (.tmp 146) = .slice (some ⟨q9, 0, none⟩) QL qc9 := (hat.new 11 _ 146 (haft ⟨11, .data⟩ (by simp) rfl) rfl rfl).trans (hP 11 _ (by rw [HPV.out]; rfl) (haft ⟨11, .data⟩ (by simp) rfl))
                            have e147 : b.eval (.tmp 147) = .int .i64 (n : Int) := (hat.new 12 _ 147 (haft ⟨12, .data⟩ (by simp) rfl) rfl rfl).trans (hP 12 _ (by rw [HPV.out]; rfl) (haft ⟨12, .data⟩ (by simp) rfl))
                            have e149 : b.eval (.tmp 149) = vals 14 := hat.new 14 _ 149 (haft ⟨14, .data⟩ (by simp) rfl) rfl rfl
                            have l14 : Lf.getD 14 false = true := haft ⟨14, .data⟩ (by simp) rfl
                            have h18 : Lf.getD 18 false = false := by
                              cases h : Lf.getD 18 false with
                              | false => rfl
                              | true => have := hat.closed 18 _ h rfl ⟨15, .data⟩ (by simp) rfl; rw [Dag.off hL] at this; cases this
                            rw [l14, Dag.off hL, h18] at hS
                            obtain ⟨b1, hv14, hB1, hle1⟩ := hS.lit rfl rfl
                            refine Dag.calls (w' := wx) (f := 78) (args := #[.slice (some ⟨q9, 0, none⟩) QL qc9, .int .i64 (n : Int), .slice (some ⟨b1, 0, none⟩) 1 1]) ?_ (fun v w'' => ∃ gg gcap, v = .slice (some ⟨gg, 0, none⟩) (QL + 1) gcap ∧ w''.ownsRow B 137 2 (.slice (some ⟨gg, 0, none⟩) (QL + 1) gcap) (QL + 1) ((lkVals queue).take (n * 2) ++ [.int .i64 tx, .int .i64 mode] ++ (lkVals queue).drop (n * 2)) ∧ wx.grownBy w'' (some q9) ∧ (some q9 = some gg ∨ gg = wx.heap.size)) ?_ ?_
                            · have ef : b.eval (.func 78) = .func (.func 78) #[] #[] := rfl
                              have q1 := e149.trans hv14
                              clear hP hS hat haft hkeep hL hcx hcq e149 hv14
                              generalize b.eval = ρ at *
                              go_simp
                            · refine (HIns.out wx b1 (hS.pre rfl) hB1 hle1).mono ?_
                              rintro e w'' ⟨gg, gcap, rfl, ho, hg, ha⟩
                              exact ⟨_, rfl, gg, gcap, rfl, ho, hg, ha⟩
                            · rintro u w'' ⟨gg, gcap, rfl, ho, hg, ha⟩
                              refine ⟨_, rfl, hkeep 15 _ (Or.inr (by rw [HPV.out]; rfl)) hL, ?_⟩
                              rw [Dag.on hL]
                              simp only [getD_set_ne false (show 15 ≠ 14 by decide), getD_set_ne false (show 15 ≠ 18 by decide), Dag.turn_same, Dag.turn_other vals (i := 15) (j := 14) _ (by decide)]
                              rw [l14, h18]
                              obtain ⟨m1, m2, m3, m4⟩ := HMid.out wx w'' gg gcap (hS.pre rfl) ho hg ha
                              exact LkM.InsS.call m1 m2 m3 m4
                          | 16, _ =>
                            injection ho with ho
                            subst ho
                            have e135 : b.eval (.tmp 135) = .pointer (some ⟨g, p * 3, none⟩) := (hat.new 0 _ 135 (haft ⟨0, .data⟩ (by simp) rfl) rfl rfl).trans (hP 0 _ (by rw [HPV.out]; rfl) (haft ⟨0, .data⟩ (by simp) rfl))
                            refine Dag.yields (w' := wx) (.pointer (some ⟨g, p * 3, none⟩)) ?_ ⟨.pointer (some ⟨g, p * 3, none⟩), rfl, hkeep 16 _ (Or.inl (by rw [HPV.out]; rfl)) hL, ?_⟩
                            · clear hP hS hat haft hkeep hL
                              generalize b.eval = ρ at *
                              go_simp
                            · simp only [getD_set_ne false (show 16 ≠ 14 by decide), getD_set_ne false (show 16 ≠ 15 by decide), getD_set_ne false (show 16 ≠ 18 by decide), Dag.turn_other vals (i := 16) (j := 14) _ (by decide), Dag.turn_other vals (i := 16) (j := 15) _ (by decide)]
                              exact hS
                          | 17, _ =>
                            injection ho with ho
                            subst ho
                            have e151 : b.eval (.tmp 151) = .pointer (some ⟨g, p * 3, none⟩) := (hat.new 16 _ 151 (haft ⟨16, .data⟩ (by simp) rfl) rfl rfl).trans (hP 16 _ (by rw [HPV.out]; rfl) (haft ⟨16, .data⟩ (by simp) rfl))
                            refine Dag.yields (w' := wx) (.pointer (some ⟨g, p * 3 + 2, none⟩)) ?_ ⟨.pointer (some ⟨g, p * 3 + 2, none⟩), rfl, hkeep 17 _ (Or.inl (by rw [HPV.out]; rfl)) hL, ?_⟩
                            · clear hP hS hat haft hkeep hL
                              generalize b.eval = ρ at *
                              go_simp
                            · simp only [getD_set_ne false (show 17 ≠ 14 by decide), getD_set_ne false (show 17 ≠ 15 by decide), getD_set_ne false (show 17 ≠ 18 by decide), Dag.turn_other vals (i := 17) (j := 14) _ (by decide), Dag.turn_other vals (i := 17) (j := 15) _ (by decide)]
                              exact hS
                          | 18, _ =>
                            injection ho with ho
                            subst ho
                            have e152 : b.eval (.tmp 152) = .pointer (some ⟨g, p * 3 + 2, none⟩) := (hat.new 17 _ 152 (haft ⟨17, .data⟩ (by simp) rfl) rfl rfl).trans (hP 17 _ (by rw [HPV.out]; rfl) (haft ⟨17, .data⟩ (by simp) rfl))
                            have e150 : b.eval (.tmp 150) = vals 15 := hat.new 15 _ 150 (haft ⟨15, .data⟩ (by simp) rfl) rfl rfl
                            have l15 : Lf.getD 15 false = true := haft ⟨15, .data⟩ (by simp) rfl
                            have l14 : Lf.getD 14 false = true := hat.closed 15 _ l15 rfl ⟨14, .data⟩ (by simp) rfl
                            rw [l14, l15, Dag.off hL] at hS
                            obtain ⟨gg, gcap, hv15, ⟨u, hcu⟩, hfz, hG⟩ := hS.mid rfl rfl
                            refine Dag.skips (w' := wx.setCell ⟨g, p * 3 + 2, none⟩ (.slice (some ⟨gg, 0, none⟩) (QL + 1) gcap)) ?_ ⟨_, rfl, hkeep 18 _ (Or.inr (by rw [HPV.out]; rfl)) hL, ?_⟩
                            · have q1 := e150.trans hv15
                              clear hP hS hat haft hkeep hL hcx hcq e150 hv15 hG
                              generalize b.eval = ρ at *
                              go_simp
                            rw [Dag.on hL]
                            simp only [getD_set_ne false (show 18 ≠ 14 by decide), getD_set_ne false (show 18 ≠ 15 by decide), Dag.turn_other vals (i := 18) (j := 14) _ (by decide), Dag.turn_other vals (i := 18) (j := 15) _ (by decide)]
                            rw [l14, l15]
                            exact LkM.InsS.put hG
                          | i + 19, h => exact absurd h (by simp)
                        · intro Lf vals wx hall hR
                          obtain ⟨hP, hS⟩ := hR
                          simp only [hall 14 (by simp), hall 15 (by simp), hall 18 (by simp)] at hS
                          have HF := box (hS.fin rfl)
                          simp only [Dag.all, List.size_toArray, List.length_cons, List.length_nil, Nat.reduceAdd, List.getElem?_toArray, List.getElem?_cons_zero, List.getElem?_cons_succ, Option.bind_some]
                          clear hP hS hall
                          go_wp2_with fail
                          go_meet
                          exact HF
                      case rest =>
                        have HG12 := hcut
                        go_step
                        go_wp2_with fail
                        rw [← HPost.out]
                        have hl9 : (t.set p (LkM.askItem t[p] ⟨tx, mode⟩).1).length = N := by rw [List.length_set, HN.out]
                        refine ⟨by rw [HTb.out]; exact HS8.out.1.trans (HG12.out.below Tb (by omega) (by omega) (by omega)), Or.inr ⟨HE0.out, some ⟨g, 0, none⟩, tc, ?_, ?_⟩⟩
                        · rw [HOld.out, hl9, hai.out]
                        · rw [HOld.out, hai.out, if_pos (by trivial), HAx.out]
                          refine (LkM.que_fin HS8.out.2.1 (by rw [HN.out]; omega) rfl hpl ?_).mono (by rw [HTb.out]; omega)
                          rw [f2]
                          exact HG12.out
end Go.Proofs.YtnnkejolfhhmlaaGreat
