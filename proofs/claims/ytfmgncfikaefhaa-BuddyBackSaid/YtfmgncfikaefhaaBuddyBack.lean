/- BuddyBack is proved for every input: no condition stands ahead of it. -/
import Derived.Test.YtfmgncfikaefhaaLawKit
import Derived.Test.YtfmgncfikaefhaaBudT
import Derived.Test.YtfmgncfikaefhaaBudD
import Derived.Test.YtfmgncfikaefhaaBudBk
import Derived.Test.YtfmgncfikaefhaaBudOpen
namespace Go.Proofs.Ytfmgncfikaefhaa
open Go.RowKit Go.Lib

theorem BudM.take_one (w : World) : Calls Try.prog 29 #[.agg #[.int .i64 2, .slice none 0 0], .int .i64 1] w fun e w' => Below w.heap.size w w' ∧ ∃ g cap : Nat, e = .returned (.tuple #[.agg #[.int .i64 2, .slice (some ⟨g, 0, none⟩) 1 cap], .int .i64 0, .int .i64 0]) := by
  refine (budTake_any 2 1 [] none 0 w (Or.inl rfl) (fun _ => rfl) (by simp)).mono ?_
  have hfr : BudM.free (2 : Int).toNat [] 0 = [⟨0, 2⟩] := by decide
  rintro e w' ⟨hb, ⟨c, h0, _, _, h9⟩ | ⟨_, _, y, hy, _, T', g, cap, rfl, hp, _⟩⟩
  · have := h9 (by decide) (by decide) (by decide) ⟨0, 2⟩ (by rw [hfr]; simp)
    exact absurd this (by decide)
  · rw [hfr, List.mem_singleton] at hy
    subst hy
    have hl : T'.length = 1 := by rw [hp.length_eq]; rfl
    exact ⟨hb, g, cap, by rw [hl]⟩

set_option maxRecDepth 20000 in
set_option maxHeartbeats 1000000 in
theorem budFits_tells (k : Int) (C : Nat) (W : World) (hc : W.cell? ⟨C, 0, none⟩ = some (.int .i64 k)) (hC : C < W.heap.size) (o : BkM) :
    TellsBk 38 #[.pointer (some ⟨C, 0, none⟩)] (fun y => decide (k ≤ y.ord)) W o := by
  obtain ⟨a, r⟩ := o
  have hB := box ((Below.refl W.heap.size W).alloc (Nat.le_refl _) (.cells #[.int .i64 a, .int .i64 r] 73))
  have hc2 : (W.alloc (.cells #[.int .i64 a, .int .i64 r] 73)).cell? ⟨C, 0, none⟩ = some (.int .i64 k) := (hB.out.cell (p := ⟨C, 0, none⟩) hC).trans hc
  unfold TellsBk
  dsimp only
  obtain ⟨y, HY⟩ : ∃ y, Box (decide (k ≤ r) = y) := ⟨_, ⟨rfl⟩⟩
  rw [HY.out]
  have q := HY.out
  go_enter Try.func38, Try.ntmps38
  go_wp2_with fail
  go_ret
  exact ⟨rfl, hB.out⟩
def BudM.inside (a k : Int) (y : BkM) : Bool := decide (y.at_ ≤ a) && decide (a + 2 ^ k.toNat ≤ y.at_ + 2 ^ y.ord.toNat)
set_option maxRecDepth 20000 in
set_option maxHeartbeats 1000000 in
theorem budIn_tells (a k : Int) (ha : 0 ≤ a ∧ a ≤ 1024) (hk : 0 ≤ k ∧ k ≤ 10) (C D : Nat) (W : World) (hc : W.cell? ⟨C, 0, none⟩ = some (.int .i64 a)) (hC : C < W.heap.size) (hd : W.cell? ⟨D, 0, none⟩ = some (.int .i64 k)) (hD : D < W.heap.size) (o : BkM) (ho : BudM.Near o) :
    TellsBk 39 #[.pointer (some ⟨C, 0, none⟩), .pointer (some ⟨D, 0, none⟩)] (BudM.inside a k) W o := by
  obtain ⟨b, r⟩ := o
  obtain ⟨r0, r1, b0, b1⟩ := ho
  simp only at r0 r1 b0 b1
  have HB := box ((Below.refl W.heap.size W).alloc (Nat.le_refl _) (.cells #[.int .i64 b, .int .i64 r] 73))
  have hc2 : (W.alloc (.cells #[.int .i64 b, .int .i64 r] 73)).cell? ⟨C, 0, none⟩ = some (.int .i64 a) := (HB.out.cell (p := ⟨C, 0, none⟩) hC).trans hc
  have hd2 : (W.alloc (.cells #[.int .i64 b, .int .i64 r] 73)).cell? ⟨D, 0, none⟩ = some (.int .i64 k) := (HB.out.cell (p := ⟨D, 0, none⟩) hD).trans hd
  obtain ⟨kk, rfl⟩ := Int.eq_ofNat_of_zero_le hk.1
  obtain ⟨rr, rfl⟩ := Int.eq_ofNat_of_zero_le r0
  unfold TellsBk
  have HI : Box (BudM.inside a (kk : Int) ⟨b, (rr : Int)⟩ = (decide (b ≤ a) && decide (a + 2 ^ kk ≤ b + 2 ^ rr))) := ⟨by
    unfold BudM.inside
    rw [show ((kk : Int)).toNat = kk by omega]
    show (decide (b ≤ a) && decide (a + 2 ^ kk ≤ b + 2 ^ ((rr : Int)).toNat)) = _
    rw [show ((rr : Int)).toNat = rr by omega]⟩
  dsimp only
  rw [HI.out]
  have hpk : (2 : Int) ^ kk ≤ 1024 := BudM.pow_hi (by omega)
  have hpr : (2 : Int) ^ rr ≤ 1024 := BudM.pow_hi (by omega)
  have hpk0 := BudM.pow_pos kk
  have hpr0 := BudM.pow_pos rr
  obtain ⟨P, HP⟩ : ∃ P : Int, Box ((2 : Int) ^ kk = P) := ⟨_, ⟨rfl⟩⟩
  obtain ⟨N, HN⟩ : ∃ N : Int, Box ((2 : Int) ^ rr = N) := ⟨_, ⟨rfl⟩⟩
  rw [HP.out] at hpk hpk0 ⊢
  rw [HN.out] at hpr hpr0 ⊢
  have w1 : IntKind.i64.wrap (2 ^ kk) = P := by rw [HP.out]; exact BudM.wrap_id (by omega) (by omega)
  have w2 : IntKind.i64.wrap (2 ^ rr) = N := by rw [HN.out]; exact BudM.wrap_id (by omega) (by omega)
  have w3 : IntKind.i64.wrap (a + P) = a + P := BudM.wrap_id (by omega) (by omega)
  have w4 : IntKind.i64.wrap (b + N) = b + N := BudM.wrap_id (by omega) (by omega)
  have hk0 : decide ((kk : Int) < 0) = false := decide_eq_false (by omega)
  have hr0 : decide ((rr : Int) < 0) = false := decide_eq_false (by omega)
  go_enter Try.func39, Try.ntmps39
  go_upto_region 1 with (fail)
  refine name_world (fun V => Below W.heap.size W V ∧ Blk V W.heap.size 73 [.int .i64 b, .int .i64 (rr : Int)] ∧ V.cell? ⟨C, 0, none⟩ = some (.int .i64 a) ∧ V.cell? ⟨D, 0, none⟩ = some (.int .i64 (kk : Int))) ⟨HB.out, Blk.new _ _ _, hc2, hd2⟩ ?_
  rintro V ⟨hbV, hkV, c1, c2⟩
  have HV := box (fun q => bud_dN hbV q)
  have x0 := hkV.cell (i := 0) rfl
  have x1 := hkV.cell (i := 1) rfl
  obtain ⟨E, HE⟩ : ∃ E, Box (W.heap.size = E) := ⟨_, ⟨rfl⟩⟩
  rw [HE.out] at x0 x1 ⊢
  clear hbV hkV hc2 hd2 hc hd hC hD HB
  cases q1 : decide (b ≤ a) with
  | false =>
    have HR : Box ((decide (b ≤ a) && decide (a + P ≤ b + N)) = false) := ⟨by rw [q1]; rfl⟩
    go_quiet (fail)
    go_wp2_with fail
    go_ret
    exact ⟨by rw [HR.out]; rfl, HV.out _⟩
  | true =>
    cases q2 : decide (a + P ≤ b + N) with
    | false =>
      have HR : Box ((decide (b ≤ a) && decide (a + P ≤ b + N)) = false) := ⟨by rw [q1, q2]; rfl⟩
      go_quiet (fail)
      go_wp2_with fail
      go_ret
      exact ⟨by rw [HR.out]; rfl, HV.out _⟩
    | true =>
      have HR : Box ((decide (b ≤ a) && decide (a + P ≤ b + N)) = true) := ⟨by rw [q1, q2]; rfl⟩
      go_quiet (fail)
      go_wp2_with fail
      go_ret
      exact ⟨by rw [HR.out]; rfl, HV.out _⟩
/-- Two rooms told equal. -/
theorem sameBuddy_any (n : Int) (l : List BkM) (ao bo : Option Addr) (cap cap' : Nat) (w : World) (h : BksAt w ao l) (h' : BksAt w bo l) (hn : l.length ≤ 1000000) :
    Calls Try.prog 40 #[.agg #[.int .i64 n, .slice ao l.length cap], .agg #[.int .i64 n, .slice bo l.length cap']] w fun e w' => e = .returned (.bool true) ∧ Below w.heap.size w w' := by
  have HB := box (((Below.refl w.heap.size w).alloc (Nat.le_refl _) (.cells #[.int .i64 n, .slice ao l.length cap] 69)).alloc (by simp) (.cells #[.int .i64 n, .slice bo l.length cap'] 69))
  have HC := box (equal_bks l l ao bo cap cap' _ (h.below HB.out (Nat.le_refl _)) (h'.below HB.out (Nat.le_refl _)) (by omega) (by omega))
  have q1 : (n == n) = true := by simp
  rw [show decide (l = l) = true from decide_eq_true rfl] at HC
  clear h h'
  go_enter Try.func40, Try.ntmps40
  go_wp2_with fail
  refine HC.out.mono ?_
  rintro e w' ⟨rfl, q, rfl⟩
  go_wp2_with fail
  go_ret
  exact ⟨by simp, bud_dN HB.out _⟩

set_option maxRecDepth 20000 in
set_option maxHeartbeats 8000000 in
theorem buddyBack_calls (n k : Int) (T : List BkM) (ao : Option Addr) (cap : Nat) (w : World) (h : BksAt w ao T) (hT : T.length ≤ 9000000000000) (hnil : ao = none → cap = 0) :
    Calls Try.prog 8 #[.agg #[.int .i64 n, .slice ao T.length cap], .int .i64 k] w fun e w' => e = .returned (.bool true) ∧ Below w.heap.size w w' := by
  have H := box h; have Hnil := box hnil
  clear h hnil
  go_enter Try.func8, Try.ntmps8
  go_upto_region 1 with (fail)
  refine name_world (fun W => Below w.heap.size w W ∧ Blk W w.heap.size 69 [.int .i64 n, .slice ao T.length cap] ∧ Blk W (w.heap.size + 1) 3 [.int .i64 k]) ⟨((Below.refl _ w).alloc (Nat.le_refl _) _).alloc (by simp) _, (Blk.new _ _ _).alloc _, Blk.new' (by simp) _ _⟩ ?_
  rintro W ⟨hb, hp, ha⟩
  have HB := box hb; have HP := box hp; have HA := box ha
  have hs := hb.size
  clear hb hp ha
  go_wp2_with fail
  refine (BudM.take_one _).mono ?_
  rintro e w1 ⟨hb1, g1, c1, rfl⟩
  have HB1 := box (HB.out.trans (hb1.mono hs))
  have HP1 := box (HP.out.after hb1)
  have HA1 := box (HA.out.after hb1)
  have hs1 := HB1.out.size
  clear hb1
  go_upto_region 4 with (fail)
  obtain ⟨V1, hV1, hp1, ha1⟩ : ∃ V, Box (w1.alloc (.cells #[.int .i64 2, .slice (some ⟨g1, 0, none⟩) 1 c1] 69) = V) ∧ Blk V w.heap.size 69 [.int .i64 n, .slice ao T.length cap] ∧ Blk V (w.heap.size + 1) 3 [.int .i64 k] := ⟨_, ⟨rfl⟩, HP1.out.alloc _, HA1.out.alloc _⟩
  have HBV := box (show Below w.heap.size w V1 by rw [← hV1.out]; exact HB1.out.alloc hs1 _)
  rw [hV1.out]
  clear hV1 HP1 HA1 HB1 hs1
  have HP1 := box hp1; have HA1 := box ha1
  have p0 := hp1.cell (i := 0) rfl
  have p1 := hp1.cell (i := 1) rfl
  have a0 := ha1.cell (i := 0) rfl
  have hsV := HBV.out.size
  clear hp1 ha1
  go_wp2_with fail
  refine (budTake_any n k T ao cap _ (H.out.below HBV.out (Nat.le_refl _)) Hnil.out hT).mono ?_
  rintro e w2 ⟨hb2, h2⟩
  have HB2 := box (HBV.out.trans (hb2.mono hsV))
  have HP2 := box (HP1.out.after hb2)
  have HA2 := box (HA1.out.after hb2)
  have hs2 := HB2.out.size
  clear hb2 p0 p1 a0
  rcases h2 with ⟨c, h0, rfl, h8, _⟩ | ⟨hck, hk0, y, hy, hky, T', g, gc, rfl, hperm, hpw, hown, hgl⟩
  · have h8 := box h8
    have g1 : (c == 0) = false := by simpa using h0
    have g2 : (c != 0) = true := by simpa using h0
    clear h0
    go_upto_region 5 with (fail)
    refine name_world (fun V => Below w.heap.size w V ∧ Blk V w.heap.size 69 [.int .i64 n, .slice ao T.length cap] ∧ Blk V (w.heap.size + 1) 3 [.int .i64 k] ∧ Blk V w2.heap.size 69 [.int .i64 0, .slice none 0 0] ∧ Blk V (w2.heap.size + 1) 3 [.int .i64 0]) ⟨(HB2.out.alloc hs2 _).alloc (by simp; omega) _, (HP2.out.alloc _).alloc _, (HA2.out.alloc _).alloc _, (Blk.new _ _ _).alloc _, Blk.new' (by simp) _ _⟩ ?_
    rintro V ⟨hb3, hp3, ha3, hx3, hat3⟩
    have HB3 := box hb3; have HP3 := box hp3; have HA3 := box ha3; have HX3 := box hx3; have HT3 := box hat3
    have p0 := hp3.cell (i := 0) rfl
    have p1 := hp3.cell (i := 1) rfl
    have hs3 := hb3.size
    clear hb3 hp3 ha3 hx3 hat3
    obtain ⟨B2, HB2e⟩ : ∃ B2, Box (w2.heap.size = B2) := ⟨_, ⟨rfl⟩⟩
    rw [HB2e.out] at HX3 HT3 ⊢
    go_wp2_with fail
    refine (budFree_any n T ao cap _ (H.out.below HB3.out (Nat.le_refl _)) hT).mono ?_
    rintro e w4 ⟨hb4, h4⟩
    have HB4 := box (HB3.out.trans (hb4.mono hs3))
    have HP4 := box (HP3.out.after hb4)
    have HA4 := box (HA3.out.after hb4)
    have HX4 := box (HX3.out.after hb4)
    have HT4 := box (HT3.out.after hb4)
    have hs4 := HB4.out.size
    clear hb4 p0 p1
    have HTl : Box (∀ W, Below w4.heap.size w4 W → ∀ o, TellsBk 38 #[.pointer (some ⟨w.heap.size + 1, 0, none⟩)] (fun y => decide (k ≤ y.ord)) W o) := ⟨fun W hW o => budFits_tells k _ W ((HA4.out.after hW).cell rfl) (HA4.out.after hW).lt o⟩
    rcases h4 with ⟨hc4, rfl⟩ | ⟨hc4, vl, rfl, hown4⟩
    · obtain ⟨c4, HC4⟩ : ∃ c4, Box (BudM.check n T = c4) := ⟨_, ⟨rfl⟩⟩
      rw [HC4.out] at hc4 ⊢
      have z1 : (c4 == 0) = false := by simpa using hc4
      have z2 : (c4 != 0) = true := by simpa using hc4
      clear hc4
      have HCF := box (containsFunc_bks [] none 0 38 #[.pointer (some ⟨w.heap.size + 1, 0, none⟩)] (fun y => decide (k ≤ y.ord)) w4 (Or.inl rfl) (by simp) (fun W hW o _ => HTl.out W hW o) (enters_fn Try.func38 (by kernel_rfl) rfl))
      go_wp2_with fail
      refine HCF.out.mono ?_
      rintro e w5 ⟨rfl, hb5⟩
      have HB5 := box (HB4.out.trans (hb5.mono hs4))
      have x1 := (HX4.out.after hb5).cell (i := 1) rfl
      have t0 := (HT4.out.after hb5).cell (i := 0) rfl
      clear hb5
      go_wp2_with fail
      go_ret
      exact ⟨by simp, HB5.out⟩
    · obtain ⟨lo, lc, rfl, hln, hat4, _, _⟩ := BksAt.own hown4
      clear hln
      have HAT4 := box hat4
      have hl4 : (BudM.free n.toNat T 0).length ≤ 1024 := by
        obtain ⟨m, e1, e2, _⟩ := BudM.check_ok hc4
        have h1 := BudM.free_len n.toNat T 0
        have h2 : 2 ^ n.toNat ≤ 2 ^ 10 := Nat.pow_le_pow_right (by omega) (by omega)
        omega
      have HF8 : Box (c = 8 → ((BudM.free n.toNat T 0).any fun y => decide (k ≤ y.ord)) = false) := ⟨fun h => by
        rw [List.any_eq_false]
        intro y hy
        have := h8.out h y hy
        simp; omega⟩
      generalize BudM.free n.toNat T 0 = L at *
      have HCF := box (containsFunc_bks L lo lc 38 #[.pointer (some ⟨w.heap.size + 1, 0, none⟩)] (fun y => decide (k ≤ y.ord)) w4 HAT4.out (by omega) (fun W hW o _ => HTl.out W hW o) (enters_fn Try.func38 (by kernel_rfl) rfl))
      obtain ⟨fits, HFi⟩ : ∃ f, Box ((L.any fun y => decide (k ≤ y.ord)) = f) := ⟨_, ⟨rfl⟩⟩
      rw [HFi.out] at HCF HF8
      clear hown4 hat4
      go_wp2_with fail
      refine HCF.out.mono ?_
      rintro e w5 ⟨rfl, hb5⟩
      have HB5 := box (HB4.out.trans (hb5.mono hs4))
      have x1 := (HX4.out.after hb5).cell (i := 1) rfl
      have t0 := (HT4.out.after hb5).cell (i := 0) rfl
      clear hb5
      by_cases e8 : c = 8
      · have hf := HF8.out e8
        subst hf
        subst e8
        go_wp2_with fail
        go_ret
        exact ⟨by simp, HB5.out⟩
      · have z8 : (c == 8) = false := by simpa using e8
        have z9 : (c != 8) = true := by simpa using e8
        clear e8
        go_wp2_with fail
        go_ret
        exact ⟨by simp, HB5.out⟩
  obtain ⟨m, rfl, hm, hf, hd⟩ := BudM.check_ok hck
  rw [show ((m : Int)).toNat = m by omega] at hy
  obtain ⟨hck', ⟨x', hx', hxa⟩, herase⟩ := BudM.back hm hf hd hy hk0 hky hperm hpw
  have HCk := box hck; have HCk' := box hck'; have HEr := box herase
  have HMem : Box (∃ x ∈ T', x.at_ = y.at_) := ⟨⟨x', hx', hxa⟩⟩
  have HNear : Box (∀ o ∈ BudM.free m T 0, BudM.Near o) := ⟨fun o ho => by
    obtain ⟨f1, f2, f3, f4, f5⟩ := BudM.fine_free o ho
    have h1 := BudM.pow_pos o.ord.toNat
    have h2 := BudM.pow_hi hm
    exact ⟨f1, by omega, f3, by omega⟩⟩
  have hya : 0 ≤ y.at_ ∧ y.at_ ≤ 1024 := ⟨(HNear.out y hy).2.2.1, (HNear.out y hy).2.2.2⟩
  have hyo : 0 ≤ k ∧ k ≤ 10 := ⟨hk0, by have := (HNear.out y hy).2.1; omega⟩
  have HIn : Box ((BudM.free m T 0).any (BudM.inside y.at_ k) = true) := ⟨List.any_eq_true.2 ⟨y, hy, by
    have h1 : (2 : Int) ^ k.toNat ≤ 2 ^ y.ord.toNat := BudM.pow_le (by omega)
    unfold BudM.inside
    simp; omega⟩⟩
  have hTl : T.length ≤ 1024 := BudM.len_of HCk.out
  have HTl' : Box (T'.length ≤ 1024) := ⟨BudM.len_of HCk'.out⟩
  obtain ⟨_, _, hsl, _, hat', _, _⟩ := BksAt.own hown
  simp only [Value.slice.injEq] at hsl
  obtain ⟨rfl, _, rfl⟩ := hsl
  have HAT2 := box hat'
  have hLl : (BudM.free m T 0).length ≤ 1024 := by
    have h1 := BudM.free_len m T 0
    have h2 : 2 ^ m ≤ 2 ^ 10 := Nat.pow_le_pow_right (by omega) (by omega)
    omega
  generalize y.at_ = a at *
  clear hck hck' herase hx' hxa hf hd hy hk0 hky hperm hpw hown hat' x'
  go_upto_region 5 with (fail)
  refine name_world (fun V => Below w.heap.size w V ∧ Blk V w.heap.size 69 [.int .i64 (m : Int), .slice ao T.length cap] ∧ Blk V (w.heap.size + 1) 3 [.int .i64 k] ∧ Blk V w2.heap.size 69 [.int .i64 (m : Int), .slice (some ⟨g, 0, none⟩) T'.length gc] ∧ Blk V (w2.heap.size + 1) 3 [.int .i64 a] ∧ BksAt V (some ⟨g, 0, none⟩) T') ⟨(HB2.out.alloc hs2 _).alloc (by simp; omega) _, (HP2.out.alloc _).alloc _, (HA2.out.alloc _).alloc _, (Blk.new _ _ _).alloc _, Blk.new' (by simp) _ _, HAT2.out.below (((Below.refl _ w2).alloc (Nat.le_refl _) _).alloc (by simp) _) (Nat.le_refl _)⟩ ?_
  rintro V ⟨hb3, hp3, ha3, hx3, hat3, hT3⟩
  have HB3 := box hb3; have HP3 := box hp3; have HA3 := box ha3; have HX3 := box hx3; have HT3 := box hat3; have HAT3 := box hT3
  have p0 := hp3.cell (i := 0) rfl
  have p1 := hp3.cell (i := 1) rfl
  have hs3 := hb3.size
  clear hb3 hp3 ha3 hx3 hat3 hT3
  obtain ⟨B2, HB2e⟩ : ∃ B2, Box (w2.heap.size = B2) := ⟨_, ⟨rfl⟩⟩
  rw [HB2e.out] at HX3 HT3 ⊢
  go_wp2_with fail
  refine (budFree_any (m : Int) T ao cap _ (H.out.below HB3.out (Nat.le_refl _)) hT).mono ?_
  rintro e w4 ⟨hb4, h4⟩
  obtain ⟨vl, rfl, hown4⟩ : ∃ vl, e = .returned (.tuple #[vl, .int .i64 0]) ∧ w4.ownsRow V.heap.size 73 2 vl (BudM.free m T 0).length (bkVals (BudM.free m T 0)) := by
    rcases h4 with ⟨hc, _⟩ | ⟨_, vl, h1, h2⟩
    · exact absurd HCk.out hc
    · rw [show ((m : Int)).toNat = m by omega] at h2
      exact ⟨vl, h1, h2⟩
  obtain ⟨lo, lc, rfl, hln, hat4, _, _⟩ := BksAt.own hown4
  clear hln h4
  have HAT4 := box hat4
  have HB4 := box (HB3.out.trans (hb4.mono hs3))
  have HP4 := box (HP3.out.after hb4)
  have HA4 := box (HA3.out.after hb4)
  have HX4 := box (HX3.out.after hb4)
  have HT4 := box (HT3.out.after hb4)
  have HATx := box (HAT3.out.below hb4 (Nat.le_refl _))
  have hs4 := HB4.out.size
  clear hb4 p0 p1 hown4 hat4
  generalize BudM.free m T 0 = L at *
  have x0 := HX4.out.cell (i := 0) rfl
  have x1 := HX4.out.cell (i := 1) rfl
  have t0 := HT4.out.cell (i := 0) rfl
  go_wp2_with fail
  refine (budDrop_any (m : Int) a T' (some ⟨g, 0, none⟩) gc _ HATx.out (fun h => by cases h) (by have := HTl'.out; omega)).mono ?_
  rintro e w5 ⟨hb5, h5⟩
  obtain ⟨g6, c6, rfl, hat6⟩ : ∃ g6 c6 : Nat, e = .returned (.tuple #[.agg #[.int .i64 (m : Int), .slice (some ⟨g6, 0, none⟩) T.length c6], .int .i64 0]) ∧ BksAt w5 (some ⟨g6, 0, none⟩) T := by
    rcases h5 with ⟨_, _, _, h9⟩ | ⟨_, i, hi, hfi, g6, c6, h1, h2, _⟩
    · obtain ⟨x, hx, hxe⟩ := HMem.out
      exact absurd hxe (h9 HCk'.out x hx)
    · rw [HEr.out i hi hfi] at h1 h2
      exact ⟨g6, c6, h1, h2⟩
  have HB5 := box (HB4.out.trans (hb5.mono hs4))
  have HP5 := box (HP4.out.after hb5)
  have HA5 := box (HA4.out.after hb5)
  have HX5 := box (HX4.out.after hb5)
  have HT5 := box (HT4.out.after hb5)
  have HATx5 := box (HATx.out.below hb5 (Nat.le_refl _))
  have HATl5 := box (HAT4.out.below hb5 (Nat.le_refl _))
  have HAT6 := box hat6
  have hs5 := HB5.out.size
  clear hb5 h5 hat6 x0 x1 t0
  go_upto_region 10 with (fail)
  refine name_world (fun V => Below w5.heap.size w5 V ∧ Blk V w5.heap.size 69 [.int .i64 (m : Int), .slice (some ⟨g6, 0, none⟩) T.length c6]) ⟨(Below.refl _ w5).alloc (Nat.le_refl _) _, Blk.new _ _ _⟩ ?_
  rintro V6 ⟨hb6, hy6⟩
  have HB6 := box (HB5.out.trans (hb6.mono hs5))
  have HP6 := box (HP5.out.after hb6)
  have HA6 := box (HA5.out.after hb6)
  have HX6 := box (HX5.out.after hb6)
  have HT6 := box (HT5.out.after hb6)
  have HATx6 := box (HATx5.out.below hb6 (Nat.le_refl _))
  have HATl6 := box (HATl5.out.below hb6 (Nat.le_refl _))
  have HAT66 := box (HAT6.out.below hb6 (Nat.le_refl _))
  have HY6 := box hy6
  have hs6 := HB6.out.size
  clear hb6 hy6
  obtain ⟨B6, HB6e⟩ : ∃ B6, Box (w5.heap.size = B6) := ⟨_, ⟨rfl⟩⟩
  rw [HB6e.out] at HY6 ⊢
  have HCF := box (containsFunc_bks L lo lc 39 #[.pointer (some ⟨B2 + 1, 0, none⟩), .pointer (some ⟨w.heap.size + 1, 0, none⟩)] (BudM.inside a k) V6 HATl6.out (by omega) (fun W hW o ho => budIn_tells a k hya hyo _ _ W ((HT6.out.after hW).cell rfl) (HT6.out.after hW).lt ((HA6.out.after hW).cell rfl) (HA6.out.after hW).lt o (HNear.out o ho)) (enters_fn Try.func39 (by kernel_rfl) rfl))
  rw [HIn.out] at HCF
  go_wp2_with fail
  refine HCF.out.mono ?_
  rintro e w7 ⟨rfl, hb7⟩
  have HB7 := box (HB6.out.trans (hb7.mono hs6))
  have HX7 := box (HX6.out.after hb7)
  have HATx7 := box (HATx6.out.below hb7 (Nat.le_refl _))
  have HAT7 := box (HAT66.out.below hb7 (Nat.le_refl _))
  have y0 := (HY6.out.after hb7).cell (i := 0) rfl
  have y1 := (HY6.out.after hb7).cell (i := 1) rfl
  have p0 := (HP6.out.after hb7).cell (i := 0) rfl
  have p1 := (HP6.out.after hb7).cell (i := 1) rfl
  have hs7 := HB7.out.size
  clear hb7
  go_wp2_with fail
  refine (sameBuddy_any (m : Int) T (some ⟨g6, 0, none⟩) ao c6 cap _ HAT7.out (H.out.below HB7.out (Nat.le_refl _)) (by omega)).mono ?_
  rintro e w8 ⟨rfl, hb8⟩
  have HB8 := box (HB7.out.trans (hb8.mono hs7))
  have HATx8 := box (HATx7.out.below hb8 (Nat.le_refl _))
  have x0 := (HX7.out.after hb8).cell (i := 0) rfl
  have x1 := (HX7.out.after hb8).cell (i := 1) rfl
  have hs8 := HB8.out.size
  clear hb8 y0 y1 p0 p1
  go_wp2_with fail
  refine (budCheck_any (m : Int) T' (some ⟨g, 0, none⟩) gc _ HATx8.out (by have := HTl'.out; omega)).mono ?_
  rintro e w9 ⟨rfl, hb9⟩
  have HB9 := box (HB8.out.trans (hb9.mono hs8))
  rw [HCk'.out]
  clear hb9 x0 x1
  go_wp2_with fail
  go_ret
  exact ⟨by simp, HB9.out⟩
namespace lawBuddyBack
open Go.ChangeShapes Go.WideShapes Go.ChangeAt Go.RowKit Go.ChangeMaps

set_option maxRecDepth 100000 in
theorem lifted (os : Os) (started : os.Started) (H : Type) (enc : TypeId × Value → H) :
    ReturnsInHanded {} Try.checked os 8 .any (Rows.buddyBackSpec.pre6 enc Try.prog Try.f8 [] false) (Rows.buddyBackSpec.post enc Try.prog Try.f8 false true false false) := by
  refine LawKit.law_lifted started (by kernel_rfl) Try.func8 rfl
    (fun ds h => by
      match ds, h with
      | [_, _], _ => rfl)
    rfl Try.underlying4 (by intro t ht; exact of_decide_eq_true (p := Try.prog.readableRec t = true ∧ t < Try.prog.types.size) (by revert t ht; decide +kernel))
    (ChangeSpec.witness6 (enc := enc) (C := Try.checked) false ⟨#[], #[.agg #[.int .i64 0, .slice none 0 0], .int .i64 0], []⟩ 8 (by kernel_rfl) (by kernel_rfl) (by kernel_rfl) (by kernel_rfl)) ?_
  intro W base args ds ps hval hA hsz hlt hfz
  have hA' := hA
  rw [Try.params8] at hA hval
  obtain ⟨v0, vs0, d0, ds0, p0, q0, hargs, rfl, rfl, h0, r0⟩ := trodAll_cons hA
  obtain ⟨v1, vs1, d1, ds1, p1, q1, rfl, rfl, rfl, h1, r1⟩ := trodAll_cons r0
  obtain ⟨rfl, rfl, rfl⟩ := trodAll_nil r1
  obtain rfl : args = #[v0, v1] := by cases args; simp_all
  go_open 1 k
  obtain ⟨n, ao, cap, ls, rfl, hnil, hat, hlen⟩ := open_buddy (hval 0 _ _ rfl rfl) h0 (Open.weights_bound hsz (j := 0) (by rw [Try.params8]; rfl) rfl)
  refine (buddyBack_calls n k ls ao cap W hat hlen hnil).mono ?_
  rintro e W' ⟨rfl, hb⟩
  exact ⟨rfl, hb⟩

theorem proved : Rows.BuddyBackSaid :=
  OpenClaim.holds_of_wide 8 Try.f8 rfl rfl rfl rfl rfl rfl rfl ⟨rfl, rfl, rfl, rfl, rfl⟩ rfl rfl rfl rfl rfl (by kernel_rfl) Try.func8 (by kernel_rfl)
    (of_decide_eq_true (by kernel_rfl)) (by unfold Func.isWrapper; first | (rw [if_pos (by decide +kernel)]; kernel_rfl) | (rw [if_neg (by decide +kernel)]; exact ⟨rfl, rfl⟩))
    (fun os started H enc _ => lifted os started H enc)
end lawBuddyBack
end Go.Proofs.Ytfmgncfikaefhaa
