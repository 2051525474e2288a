/- lock.wish, lock.can: what they compute. -/
import Derived.Test.YtnnkejolfhhmlaaGreatLkI
import Derived.Deep.DeepMust
import Derived.Test.YtnnkejolfhhmlaaGreatInts
import Derived.BigQuiet
namespace Go.Proofs.YtnnkejolfhhmlaaGreat
section
open Go.RowKit Go.Lib

/-- Function g, with lb behind, tells p of an edge, in world W; it may lay blocks. -/
def TellsLk (g : Nat) (lb : Array Value) (p : LkM → Bool) (l : List LkM) (W : World) : Prop := ∀ o ∈ l, Calls Tryz.prog g (#[.agg #[.int .i64 o.tx, .int .i64 o.mode]] ++ lb) W fun e w' => e = .returned (.bool (p o)) ∧ Below W.heap.size W w'
def LksM.find (p : LkM → Bool) (l : List LkM) : Int := if l.findIdx p < l.length then (l.findIdx p : Int) else -1

set_option maxRecDepth 20000 in
set_option maxHeartbeats 1000000 in
theorem indexFunc_lks (l : List LkM) (ao : Option Addr) (cap g : Nat) (lb : Array Value) (p : LkM → Bool) (w : World) (h : LksAt w ao l) (hn : l.length ≤ 9000000000000000000) (hp : ∀ W, Below w.heap.size w W → TellsLk g lb p l W)
    (eg : ∀ args w, (callFunc g args).run Tryz.prog w = .ok (.enter g args) w) :
    Calls Tryz.prog 100 #[.slice ao l.length cap, .func (.func g) #[] lb] w fun e w' => e = .returned (.int .i64 (LksM.find p l)) ∧ Below w.heap.size w w' := by
  have H := box h; have Hp := box hp
  clear h hp
  go_enter Tryz.func100, Tryz.ntmps100
  go_wp2_with fail
  go_loopw [8] (fun t8 wr => ∃ k : Nat, k ≤ l.length ∧ t8 = .int .i64 (k : Int) ∧ Box (∀ j (h : j < l.length), j < k → p l[j] = false) ∧ Box (Below w.heap.size w wr)) (fun t8 _ => l.length - (RowKit.intOf t8).toNat)
  case atStart => exact ⟨0, Nat.zero_le _, rfl, ⟨fun j _ h => by omega⟩, ⟨Below.refl _ _⟩⟩
  case round =>
    obtain ⟨k, hk, rfl, Hall, Hb⟩ := hrel
    by_cases hlt : k < l.length
    · obtain ⟨b, off, rfl, hb, hrow⟩ := ((H.out.below Hb.out (Nat.le_refl _)).resolve_left (by intro h; rw [h] at hlt; simp at hlt))
      obtain ⟨hc0, hc1⟩ := hrow k hlt
      have Hc := box (Hp.out _ Hb.out l[k] (List.getElem_mem hlt))
      have HF : Box (p l[k] = true → LksM.find p l = (k : Int)) := ⟨fun h => by
        have : l.findIdx p = k := by
          rw [List.findIdx_eq (by omega)]
          exact ⟨h, fun j hj => Hall.out j (by omega) hj⟩
        unfold LksM.find
        rw [this, if_pos hlt]⟩
      have HN : Box (p l[k] = false → ∀ j (h : j < l.length), j < k + 1 → p l[j] = false) := ⟨fun h j hj h2 => by
        by_cases e : j = k
        · subst e; exact h
        · exact Hall.out j hj (by omega)⟩
      generalize l[k] = o at *
      clear hrow
      go_wp2_with fail
      refine (Hc.out).mono ?_
      rintro e w' ⟨rfl, hb'⟩
      have HB' := box (below_tr Hb.out hb')
      clear hb'
      generalize p o = v at *
      cases v with
      | true =>
        go_wp2_with fail
        go_ret
        exact ⟨by rw [HF.out (by simp)]; rfl, HB'.out⟩
      | false =>
        go_wp2_with fail
        go_roundw
        case rel => exact ⟨k + 1, hlt, by go_num, ⟨HN.out (by simp)⟩, HB'⟩
        case measure => simp [RowKit.intOf]; omega
    · have HF : Box (LksM.find p l = -1) := ⟨by
        unfold LksM.find
        rw [if_neg]
        intro h
        have h2 := List.findIdx_getElem (w := h)
        have := Hall.out _ h (by omega)
        rw [this] at h2; simp at h2⟩
      go_wp2_with fail
      go_ret
      exact ⟨by rw [HF.out]; rfl, Hb.out⟩
theorem LksM.find_ge (p : LkM → Bool) (l : List LkM) : decide (0 ≤ LksM.find p l) = l.any p := by
  unfold LksM.find
  by_cases h : l.findIdx p < l.length
  · have h2 := List.findIdx_getElem (w := h)
    rw [if_pos h, decide_eq_true (by omega)]
    exact (List.any_eq_true.2 ⟨_, List.getElem_mem h, h2⟩).symm
  · rw [if_neg h]
    have h1 : l.findIdx p = l.length := by have := List.findIdx_le_length (p := p) (xs := l); omega
    rw [List.findIdx_eq_length] at h1
    have : l.any p = false := by
      rw [List.any_eq_false]
      intro x hx
      rw [h1 x hx]; simp
    rw [this]; rfl
theorem containsFunc_lks (l : List LkM) (ao : Option Addr) (cap g : Nat) (lb : Array Value) (p : LkM → Bool) (w : World) (h : LksAt w ao l) (hn : l.length ≤ 9000000000000000000) (hp : ∀ W, Below w.heap.size w W → TellsLk g lb p l W)
    (eg : ∀ args w, (callFunc g args).run Tryz.prog w = .ok (.enter g args) w) :
    Calls Tryz.prog 68 #[.slice ao l.length cap, .func (.func g) #[] lb] w fun e w' => e = .returned (.bool (l.any p)) ∧ Below w.heap.size w w' := by
  have HC := box (indexFunc_lks l ao cap g lb p w h hn hp eg)
  have HI := box (LksM.find_ge p l)
  clear h hp eg
  go_enter Tryz.func68, Tryz.ntmps68
  go_wp2_with fail
  refine HC.out.mono ?_
  rintro e w' ⟨rfl, hb⟩
  have HB := box hb
  clear hb
  generalize LksM.find p l = y at *
  go_wp2_with fail
  go_ret
  exact ⟨by rw [← HI.out]; rfl, HB.out⟩
end
section
open Go.RowKit Go.Lib

/-- Modes in their bounds. -/
def LkM.Modes (l : List LkM) : Prop := ∀ h ∈ l, 1 ≤ h.mode ∧ h.mode ≤ 5
theorem LkM.wish_at {held : List LkM} {a : LkM} {k : Nat} (hk : k < held.length) (h1 : ∀ j (hj : j < held.length), j < k → (held[j].tx == a.tx) = false) (h2 : held[k].tx = a.tx) : LkM.wish held a = LockM.joinZ held[k].mode a.mode := by
  unfold LkM.wish
  rw [List.find?_eq_some_iff_getElem.2 ⟨by simpa using h2, k, hk, rfl, fun j hj => by rw [h1 j (by omega) hj]; rfl⟩]
theorem LkM.wish_none {held : List LkM} {a : LkM} (h1 : ∀ j (hj : j < held.length), (held[j].tx == a.tx) = false) : LkM.wish held a = a.mode := by
  unfold LkM.wish
  rw [List.find?_eq_none.2 fun x hx => by
    obtain ⟨j, hj, rfl⟩ := List.mem_iff_getElem.1 hx
    rw [h1 j hj]; simp]
theorem LkM.wish_mode {held : List LkM} {a : LkM} (hm : LkM.Modes held) (ha : 1 ≤ a.mode ∧ a.mode ≤ 5) : 1 ≤ LkM.wish held a ∧ LkM.wish held a ≤ 5 := by
  unfold LkM.wish
  split
  · rename_i x hx
    have := hm x (List.mem_of_find?_eq_some hx)
    unfold LockM.joinZ
    split <;> omega
  · exact ha

set_option maxRecDepth 20000 in
set_option maxHeartbeats 2000000 in
theorem wish_any (it : Int) (held : List LkM) (ha : Option Addr) (hc : Nat) (qa : Option Addr) (qn qc : Nat) (a : LkM) (w : World) (h : LksAt w ha held) (hm : LkM.Modes held) (ham : 1 ≤ a.mode ∧ a.mode ≤ 5) (hn : held.length ≤ 9000000000000) :
    Calls Tryz.prog 104 #[.agg #[.int .i64 it, .slice ha held.length hc, .slice qa qn qc], .agg #[.int .i64 a.tx, .int .i64 a.mode]] w fun e w' => e = .returned (.int .i64 (LkM.wish held a)) ∧ Below w.heap.size w w' := by
  have H := box h; have HM := box hm; have HAm := box ham
  clear h hm ham
  obtain ⟨N, HN⟩ : ∃ N, Box (held.length = N) := ⟨_, ⟨rfl⟩⟩
  rw [HN.out] at hn ⊢
  obtain ⟨tx, mode⟩ := a
  obtain ⟨res, HRes⟩ : ∃ x, Box (LkM.wish held ⟨tx, mode⟩ = x) := ⟨_, ⟨rfl⟩⟩
  rw [HRes.out]
  have HS : Box (Below w.heap.size w ((w.alloc (.cells #[.int .i64 it, .slice ha N hc, .slice qa qn qc] 134)).alloc (.cells #[.int .i64 tx, .int .i64 mode] 137)) ∧
      Blk ((w.alloc (.cells #[.int .i64 it, .slice ha N hc, .slice qa qn qc] 134)).alloc (.cells #[.int .i64 tx, .int .i64 mode] 137)) (w.heap.size + 1) 137 [.int .i64 tx, .int .i64 mode]) :=
    ⟨((Below.refl _ _).alloc (Nat.le_refl _) _).alloc (by simp) _, by
      have := Blk.new (w.alloc (.cells #[.int .i64 it, .slice ha N hc, .slice qa qn qc] 134)) [.int .i64 tx, .int .i64 mode] 137
      rwa [World.size_alloc] at this⟩
  go_enter Tryz.func104, Tryz.ntmps104
  go_wp2_with fail
  go_loopw [12] (fun t12 wr => ∃ k : Nat, k ≤ N ∧ t12 = .int .i64 (k : Int) ∧ Box ((∀ j (hj : j < held.length), j < k → (held[j].tx == tx) = false) ∧ Below w.heap.size w wr ∧ Blk wr (w.heap.size + 1) 137 [.int .i64 tx, .int .i64 mode])) (fun t12 _ => N - (RowKit.intOf t12).toNat)
  case atStart => exact ⟨0, Nat.zero_le _, rfl, ⟨fun j _ h => by omega, HS.out⟩⟩
  case round =>
    obtain ⟨k, hk, rfl, HR⟩ := hrel
    clear HS
    have x0 := HR.out.2.2.cell (i := 0) rfl
    have x1 := HR.out.2.2.cell (i := 1) rfl
    have hlt1 := HR.out.2.2.lt
    by_cases hlt : k < N
    · have hkl : k < held.length := by rw [HN.out]; exact hlt
      obtain ⟨b, off, rfl, hb, hrow⟩ := (H.out.below HR.out.2.1 (Nat.le_refl _)).resolve_left (by intro h; have := HN.out; rw [h, List.length_nil] at this; omega)
      obtain ⟨c0, c1⟩ := hrow k hkl
      have hmk := HM.out _ (List.getElem_mem hkl)
      have HAt : Box (held[k].tx = tx → res = LockM.joinZ held[k].mode mode) := ⟨fun e => by rw [← HRes.out]; exact LkM.wish_at (a := ⟨tx, mode⟩) hkl (fun j hj hjk => HR.out.1 j hj hjk) e⟩
      have HNx : Box ((held[k].tx == tx) = false → ∀ j (hj : j < held.length), j < k + 1 → (held[j].tx == tx) = false) := ⟨fun e j hj hjk => by
        by_cases e2 : j = k
        · subst e2; exact e
        · exact HR.out.1 j hj (by omega)⟩
      generalize held[k] = x at *
      obtain ⟨xt, xm⟩ := x
      have HMk := box hmk
      dsimp only at c0 c1 HAt HNx HMk
      have HW : Box (Below w.heap.size w (wr.alloc (.cells #[.int .i64 xt, .int .i64 xm] 137)) ∧ Blk (wr.alloc (.cells #[.int .i64 xt, .int .i64 xm] 137)) (w.heap.size + 1) 137 [.int .i64 tx, .int .i64 mode]) := ⟨HR.out.2.1.alloc (by omega) _, HR.out.2.2.alloc _⟩
      clear hrow hmk
      cases d0 : (xt == tx) with
      | true =>
        have HEq := box (HAt.out (by simpa using d0))
        go_wp2_with fail
        refine (join_yes xm mode _ HMk.out HAm.out).mono ?_
        rintro e w' ⟨rfl, rfl⟩
        go_wp2_with fail
        go_ret
        exact ⟨by rw [HEq.out]; rfl, HW.out.1⟩
      | false =>
        have HNy := box (HNx.out d0)
        go_wp2_with fail
        go_roundw
        case rel => exact ⟨k + 1, by omega, by go_num, ⟨HNy.out, HW.out⟩⟩
        case measure => simp [RowKit.intOf]; omega
    · obtain rfl : k = N := by omega
      have HEq : Box (res = mode) := ⟨by rw [← HRes.out]; exact LkM.wish_none (fun j hj => HR.out.1 j hj (by rw [← HN.out]; exact hj))⟩
      have d0 : decide (k < k) = false := by simp
      have HB := box HR.out.2.1
      clear HR
      go_wp2_with fail
      go_ret
      exact ⟨by rw [HEq.out]; rfl, HB.out⟩
set_option maxRecDepth 20000 in
set_option maxHeartbeats 4000000 in
theorem can_f (W : World) (x : LkM) (tx m : Int) (Ab Mb : Nat) (hA : W.cell? ⟨Ab, 0, none⟩ = some (.int .i64 tx)) (hM : W.cell? ⟨Mb, 0, none⟩ = some (.int .i64 m)) (hAb : Ab < W.heap.size) (hMb : Mb < W.heap.size) (hx : 1 ≤ x.mode ∧ x.mode ≤ 5) (hm : 1 ≤ m ∧ m ≤ 5) :
    Calls Tryz.prog 105 #[.agg #[.int .i64 x.tx, .int .i64 x.mode], .pointer (some ⟨Ab, 0, none⟩), .pointer (some ⟨Mb, 0, none⟩)] W fun e w' => e = .returned (.bool (LkM.bars tx m x)) ∧ Below W.heap.size W w' := by
  obtain ⟨xt, xm⟩ := x
  cases d0 : (xt != tx) with
  | false =>
    have HRes : LkM.bars tx m ⟨xt, xm⟩ = false := by unfold LkM.bars; rw [d0]; rfl
    rw [HRes]
    clear hx hm
    go_enter Tryz.func105, Tryz.ntmps105
    go_wp2_with fail
    go_quiet (fail)
    go_wp2_with fail
    go_ret
    exact ⟨rfl, ((Below.refl _ _).alloc (Nat.le_refl _) _).trans ⟨rfl, rfl, rfl, Nat.le_refl _, fun _ _ => rfl⟩⟩
  | true =>
    have HRes : LkM.bars tx m ⟨xt, xm⟩ = !LockM.fitB m xm := by unfold LkM.bars; rw [d0]; rfl
    rw [HRes]
    clear HRes
    have HF1 : ∀ z, LockM.fitsZ m = z → ∀ wx, Calls Tryz.prog 106 #[.int .i64 m] wx fun e w' => e = .returned (.int .i64 z) ∧ w' = wx := fun z h wx => (fits_in m wx hm).mono fun e w' ⟨h1, h2⟩ => ⟨by rw [h1, h], h2.symm⟩
    dsimp only at hx
    rcases LockM.five hm with rfl | rfl | rfl | rfl | rfl
    · have HF := box (HF1 30 (by decide))
      clear HF1 hm
      rcases LockM.five hx with rfl | rfl | rfl | rfl | rfl
      all_goals
        clear hx
        go_enter Tryz.func105, Tryz.ntmps105
        go_wp2_with fail
        go_quiet (first | (go_at_call 106; exact Calls.quiet_of_same (HF.out _)))
        go_wp2_with fail
        go_ret
        exact ⟨by kernel_rfl, ((Below.refl _ _).alloc (Nat.le_refl _) _).trans ⟨rfl, rfl, rfl, Nat.le_refl _, fun _ _ => rfl⟩⟩
    · have HF := box (HF1 6 (by decide))
      clear HF1 hm
      rcases LockM.five hx with rfl | rfl | rfl | rfl | rfl
      all_goals
        clear hx
        go_enter Tryz.func105, Tryz.ntmps105
        go_wp2_with fail
        go_quiet (first | (go_at_call 106; exact Calls.quiet_of_same (HF.out _)))
        go_wp2_with fail
        go_ret
        exact ⟨by kernel_rfl, ((Below.refl _ _).alloc (Nat.le_refl _) _).trans ⟨rfl, rfl, rfl, Nat.le_refl _, fun _ _ => rfl⟩⟩
    · have HF := box (HF1 10 (by decide))
      clear HF1 hm
      rcases LockM.five hx with rfl | rfl | rfl | rfl | rfl
      all_goals
        clear hx
        go_enter Tryz.func105, Tryz.ntmps105
        go_wp2_with fail
        go_quiet (first | (go_at_call 106; exact Calls.quiet_of_same (HF.out _)))
        go_wp2_with fail
        go_ret
        exact ⟨by kernel_rfl, ((Below.refl _ _).alloc (Nat.le_refl _) _).trans ⟨rfl, rfl, rfl, Nat.le_refl _, fun _ _ => rfl⟩⟩
    · have HF := box (HF1 2 (by decide))
      clear HF1 hm
      rcases LockM.five hx with rfl | rfl | rfl | rfl | rfl
      all_goals
        clear hx
        go_enter Tryz.func105, Tryz.ntmps105
        go_wp2_with fail
        go_quiet (first | (go_at_call 106; exact Calls.quiet_of_same (HF.out _)))
        go_wp2_with fail
        go_ret
        exact ⟨by kernel_rfl, ((Below.refl _ _).alloc (Nat.le_refl _) _).trans ⟨rfl, rfl, rfl, Nat.le_refl _, fun _ _ => rfl⟩⟩
    · have HF := box (HF1 0 (by decide))
      clear HF1 hm
      rcases LockM.five hx with rfl | rfl | rfl | rfl | rfl
      all_goals
        clear hx
        go_enter Tryz.func105, Tryz.ntmps105
        go_wp2_with fail
        go_quiet (first | (go_at_call 106; exact Calls.quiet_of_same (HF.out _)))
        go_wp2_with fail
        go_ret
        exact ⟨by kernel_rfl, ((Below.refl _ _).alloc (Nat.le_refl _) _).trans ⟨rfl, rfl, rfl, Nat.le_refl _, fun _ _ => rfl⟩⟩
set_option maxRecDepth 20000 in
set_option maxHeartbeats 2000000 in
theorem can_any (it : Int) (held : List LkM) (ha : Option Addr) (hc : Nat) (qa : Option Addr) (qn qc : Nat) (a : LkM) (w : World) (h : LksAt w ha held) (hm : LkM.Modes held) (ham : 1 ≤ a.mode ∧ a.mode ≤ 5) (hn : held.length ≤ 9000000000000) :
    Calls Tryz.prog 75 #[.agg #[.int .i64 it, .slice ha held.length hc, .slice qa qn qc], .agg #[.int .i64 a.tx, .int .i64 a.mode]] w fun e w' => e = .returned (.bool (LkM.can held a)) ∧ Below w.heap.size w w' := by
  have H := box h; have HM := box hm
  have HWm := box (LkM.wish_mode hm ham)
  have hbw : Below w.heap.size w ((w.alloc (.cells #[.int .i64 it, .slice ha held.length hc, .slice qa qn qc] 134)).alloc (.cells #[.int .i64 a.tx, .int .i64 a.mode] 137)) := ((Below.refl _ _).alloc (Nat.le_refl _) _).alloc (by simp) _
  have HWi := box (wish_any it held ha hc qa qn qc a _ (h.below hbw (Nat.le_refl _)) hm ham hn)
  have HBw := box hbw
  have hA : Blk ((w.alloc (.cells #[.int .i64 it, .slice ha held.length hc, .slice qa qn qc] 134)).alloc (.cells #[.int .i64 a.tx, .int .i64 a.mode] 137)) (w.heap.size + 1) 137 [.int .i64 a.tx, .int .i64 a.mode] := by
    have := Blk.new (w.alloc (.cells #[.int .i64 it, .slice ha held.length hc, .slice qa qn qc] 134)) [.int .i64 a.tx, .int .i64 a.mode] 137
    rwa [World.size_alloc] at this
  have hI : Blk ((w.alloc (.cells #[.int .i64 it, .slice ha held.length hc, .slice qa qn qc] 134)).alloc (.cells #[.int .i64 a.tx, .int .i64 a.mode] 137)) w.heap.size 134 [.int .i64 it, .slice ha held.length hc, .slice qa qn qc] := (Blk.new w [.int .i64 it, .slice ha held.length hc, .slice qa qn qc] 134).alloc _
  have HA := box hA; have HIb := box hI
  obtain ⟨N, HN⟩ : ∃ N, Box (held.length = N) := ⟨_, ⟨rfl⟩⟩
  have HCan : Box (LkM.can held a = !(held.any (LkM.bars a.tx (LkM.wish held a)))) := ⟨rfl⟩
  obtain ⟨tx, mode⟩ := a
  obtain ⟨m, HRes⟩ : ∃ x, Box (LkM.wish held ⟨tx, mode⟩ = x) := ⟨_, ⟨rfl⟩⟩
  rw [HRes.out] at HWi HCan HWm
  rw [HCan.out]
  rw [HN.out] at HWi hn HA HIb HBw ⊢
  dsimp only at HWi HA HIb HBw HCan ⊢
  obtain ⟨c, HCc⟩ : ∃ x, Box (held.any (LkM.bars tx m) = x) := ⟨_, ⟨rfl⟩⟩
  rw [HCc.out]
  clear h hm ham hbw hA hI
  go_enter Tryz.func75, Tryz.ntmps75
  go_wp2_with fail
  refine HWi.out.mono ?_
  rintro e w1 ⟨rfl, hb1⟩
  have HB1 := box (HBw.out.trans (hb1.mono HBw.out.size))
  have HA1 := box (HA.out.after hb1)
  have hI1 := HIb.out.after hb1
  have i1 := (hI1.alloc (.cells #[.int .i64 m] 3)).cell (i := 1) rfl
  have hI2 := hI1.lt
  clear hb1 HWi HBw HA HIb hI1
  have hmB := Blk.new w1 [.int .i64 m] 3
  have HW2 : Box (Below w.heap.size w (w1.alloc (.cells #[.int .i64 m] 3)) ∧ Blk (w1.alloc (.cells #[.int .i64 m] 3)) (w.heap.size + 1) 137 [.int .i64 tx, .int .i64 mode] ∧ Blk (w1.alloc (.cells #[.int .i64 m] 3)) w1.heap.size 3 [.int .i64 m]) := ⟨HB1.out.alloc HB1.out.size _, HA1.out.alloc _, hmB⟩
  have HCf := box (containsFunc_lks held ha hc 105 #[.pointer (some ⟨w.heap.size + 1, 0, none⟩), .pointer (some ⟨w1.heap.size, 0, none⟩)] (LkM.bars tx m) (w1.alloc (.cells #[.int .i64 m] 3)) (H.out.below HW2.out.1 (Nat.le_refl _)) (by rw [HN.out]; omega) (fun W hW o ho =>
    can_f W o tx m (w.heap.size + 1) w1.heap.size ((HW2.out.2.1.after hW).cell rfl) ((HW2.out.2.2.after hW).cell rfl) (HW2.out.2.1.after hW).lt (HW2.out.2.2.after hW).lt (HM.out o ho) HWm.out) (enters_fn Tryz.func105 (by kernel_rfl) rfl))
  rw [HN.out, HCc.out] at HCf
  have hm1 := HW2.out.2.2.lt
  have ha1 := HW2.out.2.1.lt
  clear hmB HA1 HB1
  go_wp2_with fail
  refine HCf.out.mono ?_
  rintro e w5 ⟨rfl, hb5⟩
  have HB5 := box (below_tr HW2.out.1 hb5)
  clear hb5 HCf HW2 HCan
  go_wp2_with fail
  go_ret
  exact ⟨rfl, HB5.out⟩
end
end Go.Proofs.YtnnkejolfhhmlaaGreat
