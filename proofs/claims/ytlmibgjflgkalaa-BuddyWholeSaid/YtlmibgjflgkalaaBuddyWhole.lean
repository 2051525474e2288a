/- BuddyWhole is proved for every input: no condition stands ahead of it. -/
import Derived.Test.YtlmibgjflgkalaaLawKit
import Derived.Test.YtlmibgjflgkalaaBudE
import Derived.Test.YtlmibgjflgkalaaBudM2
import Derived.Test.YtlmibgjflgkalaaSlFind
import Derived.Test.YtlmibgjflgkalaaBudOpen
import Derived.Deep.RegionHeld3
import Derived.Deep.OwnRows
namespace Go.Proofs.Ytlmibgjflgkalaa
open Go.RowKit Go.Lib

/-- Nothing that was there has turned, but block p. -/
def But (p : Nat) (w w' : World) : Prop := w.heap.size ≤ w'.heap.size ∧ ∀ g, g < w.heap.size → g ≠ p → w'.heap[g]? = w.heap[g]?
theorem But.refl (p : Nat) (w : World) : But p w w := ⟨Nat.le_refl _, fun _ _ _ => rfl⟩
theorem But.below {p N : Nat} {w w1 w2 : World} (h : But p w w1) (hb : Below N w1 w2) (hN : w1.heap.size ≤ N) : But p w w2 :=
  ⟨Nat.le_trans h.1 hb.size, fun g hg hp => (hb.block g (Nat.lt_of_lt_of_le (Nat.lt_of_lt_of_le hg h.1) hN)).trans (h.2 g hg hp)⟩
theorem But.set {p : Nat} {w w1 : World} (h : But p w w1) (i : Nat) (v : Value) : But p w (w1.setCell ⟨p, i, none⟩ v) :=
  ⟨by rw [World.size_setCell]; exact h.1, fun g hg hp => (Below.heap_setCell _ _ _ _ hp).trans (h.2 g hg hp)⟩
theorem But.cell {p : Nat} {w w1 : World} (h : But p w w1) {b i : Nat} (hb : b < w.heap.size) (hp : b ≠ p) : w1.cell? ⟨b, i, none⟩ = w.cell? ⟨b, i, none⟩ := by
  simp [World.cell?, h.2 b hb hp]
theorem But.blk {p : Nat} {w w1 : World} (h : But p w w1) {b t : Nat} {C : List Value} (hb : Blk w b t C) (hp : b ≠ p) : Blk w1 b t C := (h.2 b hb.lt hp).trans hb

theorem But.bks {p : Nat} {w w1 : World} {ao : Option Addr} {l : List BkM} (h : But p w w1) (hat : BksAt w ao l) (hne : ∀ b off, ao = some ⟨b, off, none⟩ → b ≠ p) : BksAt w1 ao l := by
  rcases hat with h1 | ⟨b, off, h1, h2, h3⟩
  · exact Or.inl h1
  · have hp := hne b off h1
    exact Or.inr ⟨b, off, h1, Nat.lt_of_lt_of_le h2 h.1, fun k hk => by rw [h.cell h2 hp, h.cell h2 hp]; exact h3 k hk⟩
/-- How often a place was told, i places into block k. -/
def BudM.plc (C : List BkM) (k i : Nat) (xa : Int) (p : Nat) : Int := (BudM.cnt (C.take k) (p : Int) : Int) + (if xa ≤ (p : Int) ∧ (p : Int) < xa + (i : Int) then 1 else 0)
theorem BudM.plc_zero (C : List BkM) (k : Nat) (xa : Int) (p : Nat) : BudM.plc C k 0 xa p = (BudM.cnt (C.take k) (p : Int) : Int) := by
  unfold BudM.plc; rw [if_neg (by omega)]; omega
theorem BudM.plc_step (C : List BkM) (k i a p : Nat) : upd (BudM.plc C k i (a : Int)) (a + i) (BudM.plc C k i (a : Int) (a + i) + 1) p = BudM.plc C k (i + 1) (a : Int) p := by
  unfold upd BudM.plc
  by_cases e : p = a + i
  · subst e
    rw [if_pos rfl, if_neg (by omega), if_pos (by omega)]; omega
  · rw [if_neg e]
    by_cases h : (a : Int) ≤ (p : Int) ∧ (p : Int) < (a : Int) + (i : Int)
    · rw [if_pos h, if_pos (by omega)]
    · rw [if_neg h, if_neg (by omega)]
theorem BudM.plc_end (C : List BkM) (k X : Nat) (h : k < C.length) (p : Nat) (hX : (2 : Int) ^ C[k].ord.toNat = (X : Int)) : BudM.plc C k X C[k].at_ p = (BudM.cnt (C.take (k + 1)) (p : Int) : Int) := by
  unfold BudM.plc BudM.cnt
  rw [List.take_succ_eq_append_getElem h, List.countP_append, List.countP_singleton]
  have e : BudM.has (p : Int) C[k] = true ↔ C[k].at_ ≤ (p : Int) ∧ (p : Int) < C[k].at_ + (X : Int) := by rw [BudM.has_iff, hX]
  by_cases hh : C[k].at_ ≤ (p : Int) ∧ (p : Int) < C[k].at_ + (X : Int)
  · rw [if_pos hh, if_pos (e.2 hh)]; omega
  · rw [if_neg hh, if_neg (fun h => hh (e.1 h))]; omega
theorem BudM.plc_bnd (C : List BkM) (k i : Nat) (xa : Int) (p : Nat) : 0 ≤ BudM.plc C k i xa p ∧ BudM.plc C k i xa p ≤ (C.length : Int) + 1 := by
  unfold BudM.plc BudM.cnt
  have h1 := List.countP_le_length (p := BudM.has (p : Int)) (l := C.take k)
  rw [List.length_take] at h1
  split <;> omega

theorem containsFunc_ints (l : List Int) (ao : Option Addr) (cap g : Nat) (lb : Array Value) (p : Int → Bool) (w : World) (h : IntsAt w ao l) (hn : l.length ≤ 9000000000000000000) (hp : Tells g lb p w)
    (eg : ∀ args w, (callFunc g args).run Try.prog w = .ok (.enter g args) w) :
    Calls Try.prog 16 #[.slice ao l.length cap, .func (.func g) #[] lb] w fun e w' => e = .returned (.bool (l.any p)) ∧ w = w' := by
  have HC := box (indexFunc_any l ao cap g lb p w h hn hp eg)
  have HI : Box (decide (0 ≤ IntsM.find p l) = l.any p) := ⟨by
    unfold IntsM.find
    by_cases hf : l.findIdx p < l.length
    · rw [if_pos hf]
      have h1 := List.findIdx_getElem (w := hf)
      rw [List.any_eq_true.2 ⟨_, List.getElem_mem hf, h1⟩]
      simp
    · rw [if_neg hf]
      have h1 : l.findIdx p = l.length := by have := List.findIdx_le_length (p := p) (xs := l); omega
      rw [List.findIdx_eq_length] at h1
      have h2 : l.any p = false := by
        rw [List.any_eq_false]
        intro x hx; rw [h1 x hx]; simp
      rw [h2]; rfl⟩
  clear h hp
  go_enter Try.func16, Try.ntmps16
  go_wp2_with fail
  refine HC.out.mono ?_
  rintro e w' ⟨rfl, rfl⟩
  generalize IntsM.find p l = y at *
  go_wp2_with fail
  go_ret
  exact ⟨by rw [← HI.out]; rfl, rfl⟩

theorem BudM.xor_i64 (a b : Int) (ha : 0 ≤ a) (ha1 : a ≤ 1024) (hb : 0 ≤ b) (hb1 : b ≤ 1024) : bits .xor .i64 a b = ((a.toNat ^^^ b.toNat : Nat) : Int) := by
  obtain ⟨A, rfl⟩ := Int.eq_ofNat_of_zero_le ha
  obtain ⟨B, rfl⟩ := Int.eq_ofNat_of_zero_le hb
  have hx : A ^^^ B < 2 ^ 11 := Nat.xor_lt_two_pow (by omega) (by omega)
  have h1 : (BitVec.ofInt 64 (A : Int)).toNat = A := by
    rw [BitVec.ofInt_natCast, BitVec.toNat_ofNat]; exact Nat.mod_eq_of_lt (by omega)
  have h2 : (BitVec.ofInt 64 (B : Int)).toNat = B := by
    rw [BitVec.ofInt_natCast, BitVec.toNat_ofNat]; exact Nat.mod_eq_of_lt (by omega)
  show IntKind.i64.wrap ((BitVec.ofInt 64 (A : Int) ^^^ BitVec.ofInt 64 (B : Int)).toNat : Int) = _
  rw [BitVec.toNat_xor, h1, h2, BudM.wrap_id (by omega) (by omega)]
  simp
theorem buddy_tells (W : World) : Tells 17 #[] (fun n => n != 1) W := by
  intro x
  cases h : (x == 1) with
  | true =>
    have h2 : (x != 1) = false := by simp at h ⊢; exact h
    go_enter Try.func17, Try.ntmps17
    go_wp2_with fail
    go_ret
    exact ⟨by rw [h2]; rfl, rfl⟩
  | false =>
    have h2 : (x != 1) = true := by simp at h ⊢; exact h
    go_enter Try.func17, Try.ntmps17
    go_wp2_with fail
    go_ret
    exact ⟨by rw [h2]; rfl, rfl⟩
theorem BudM.infoI : (Try.prog.info? 3).map (fun i => (i.zero, i.size, i.bytes)) = some (some (.int .i64 0), 1, 8) := by kernel_rfl
theorem buddy_two (b cap : Nat) (w : World) (h : Blk w b 29 [.int .i64 1, .int .i64 0]) :
    Calls Try.prog 13 #[.agg #[.int .i64 2, .slice (some ⟨b, 0, none⟩) 1 cap]] w fun e w' => Below w.heap.size w w' ∧ ∃ g c1, e = .returned (.tuple #[.slice (some ⟨g, 0, none⟩) 2 c1, .int .i64 0]) ∧ BksAt w' (some ⟨g, 0, none⟩) [⟨0, 0⟩, ⟨2, 1⟩] := by
  refine (budFree_any 2 [⟨1, 0⟩] (some ⟨b, 0, none⟩) cap w (Or.inr ⟨b, 0, rfl, h.lt, ?_⟩) (by decide)).mono ?_
  · intro k hk
    match k, hk with
    | 0, _ => exact ⟨h.cell rfl, h.cell rfl⟩
  · have hc : BudM.check 2 [⟨1, 0⟩] = 0 := by decide
    have hl : BudM.free (2 : Int).toNat [⟨1, 0⟩] 0 = [⟨0, 0⟩, ⟨2, 1⟩] := by decide
    rintro e w' ⟨hb, ⟨h1, _⟩ | ⟨_, v, rfl, hr⟩⟩
    · exact absurd hc h1
    · rw [hl] at hr
      obtain ⟨ao, c1, rfl, _, hat, _, _⟩ := BksAt.own hr
      rcases hr.2 with ⟨h1, h2⟩ | ⟨g, c, cur, h1, _⟩
      · simp at h2
      · simp only [Value.slice.injEq] at h1
        obtain ⟨rfl, _, rfl⟩ := h1
        exact ⟨hb, g, c1, rfl, hat⟩

set_option maxRecDepth 20000 in
set_option maxHeartbeats 8000000 in
theorem buddyWhole_calls (n : Int) (T : List BkM) (ao : Option Addr) (cap : Nat) (w : World) (h : BksAt w ao T) (hT : T.length ≤ 9000000000000) (hnil : ao = none → cap = 0) :
    Calls Try.prog 3 #[.agg #[.int .i64 n, .slice ao T.length cap]] w fun e w' => e = .returned (.bool true) ∧ Below w.heap.size w w' := by
  have H := box h; have Hnil := box hnil
  clear h hnil
  go_enter Try.func3, Try.ntmps3
  go_wp2_with fail
  refine (buddy_two (w.heap.size + 1) 1 _ (Blk.new' (by simp) [.int .i64 1, .int .i64 0] _)).mono ?_
  rintro e w1 ⟨hb1, g, c1, rfl, hat1⟩
  have hA : Below w.heap.size w ((w.alloc (.cells #[.int .i64 n, .slice ao T.length cap] 24)).alloc (.cells #[.int .i64 1, .int .i64 0] 29)) := ((Below.refl _ _).alloc (Nat.le_refl _) _).alloc (by simp) _
  have HB1 := box (hA.trans (hb1.mono (by simp; omega)))
  have HK1 := box (((Blk.new w [.int .i64 n, .slice ao T.length cap] 24).alloc (.cells #[.int .i64 1, .int .i64 0] 29)).after hb1)
  have HAT1 := box hat1
  have hs1 := HB1.out.size
  have hl1 := HK1.out.lt
  clear hb1 hat1 hA
  go_wp2_with fail
  have HB2 := box (HB1.out.alloc hs1 (.cells #[.int .i64 0, .int .i64 0, .int .i64 2, .int .i64 1] 29))
  refine (equal_bks [⟨0, 0⟩, ⟨2, 1⟩] [⟨0, 0⟩, ⟨2, 1⟩] (some ⟨g, 0, none⟩) (some ⟨w1.heap.size, 0, none⟩) c1 2 _ (HAT1.out.below ((Below.refl _ _).alloc (Nat.le_refl _) _) (Nat.le_refl _)) (Or.inr ⟨_, 0, rfl, (Blk.new w1 [.int .i64 0, .int .i64 0, .int .i64 2, .int .i64 1] 29).lt, ?_⟩) (by decide) (by decide)).mono ?_
  · intro k hk
    have hbl := Blk.new w1 [.int .i64 0, .int .i64 0, .int .i64 2, .int .i64 1] 29
    match k, hk with
    | 0, _ => exact ⟨hbl.cell rfl, hbl.cell rfl⟩
    | 1, _ => exact ⟨hbl.cell rfl, hbl.cell rfl⟩
  rintro e w2 ⟨rfl, n2, rfl⟩
  rw [show decide (([⟨0, 0⟩, ⟨2, 1⟩] : List BkM) = [⟨0, 0⟩, ⟨2, 1⟩]) = true from by decide]
  have hfacts : Below w.heap.size w ((w1.alloc (.cells #[.int .i64 0, .int .i64 0, .int .i64 2, .int .i64 1] 29)).drewN n2) ∧ Blk ((w1.alloc (.cells #[.int .i64 0, .int .i64 0, .int .i64 2, .int .i64 1] 29)).drewN n2) w.heap.size 24 [.int .i64 n, .slice ao T.length cap] := ⟨bud_dN HB2.out _, (HK1.out.alloc _).drewN _⟩
  generalize (w1.alloc (.cells #[.int .i64 0, .int .i64 0, .int .i64 2, .int .i64 1] 29)).drewN n2 = W at *
  obtain ⟨hbW, hkW⟩ := hfacts
  have HBW := box hbW; have HKW := box hkW
  have hsW := hbW.size
  have hlW := hkW.lt
  have x0 := hkW.cell (i := 0) rfl
  have x1 := hkW.cell (i := 1) rfl
  clear hbW hkW HB1 HK1 HAT1 HB2 hs1 hl1
  go_wp2_with fail
  refine (budFree_any n T ao cap W (H.out.below HBW.out (Nat.le_refl _)) hT).mono ?_
  rintro e w3 ⟨hb3, hcase⟩
  have HB3 := box (below_tr HBW.out hb3)
  have HK3 := box (HKW.out.after hb3)
  clear hb3 x0 x1
  rcases hcase with ⟨h0, rfl⟩ | ⟨h0, v, rfl, hown⟩
  · generalize BudM.check n T = c at *
    have g1 : (c == 0) = false := by simp [h0]
    have g2 : (c != 0) = true := by simp [h0]
    clear h0
    go_wp2_with fail
    go_ret
    exact ⟨rfl, HB3.out⟩
  obtain ⟨m, rfl, hm, hf, hpw⟩ := BudM.check_ok h0
  have e1 : ((m : Int)).toNat = m := by omega
  rw [e1] at hown
  have hll := BudM.free_len m T 0
  have hpm : 2 ^ m ≤ 2 ^ 10 := Nat.pow_le_pow_right (by omega) hm
  have hpm2 : 2 ^ 10 = 1024 := by decide
  have hT2 : T.length ≤ 1024 := by
    have h1 := BudM.sorted_len T 0 (fun x hx => ⟨hf x hx, (hf x hx).2.2.1⟩) hpw (by have := BudM.pow_pos m; omega)
    have h2 := BudM.pow_hi hm
    omega
  have HW := box (fun p (h0 : 0 ≤ p) h1 => BudM.whole hf hpw (p := p) h0 h1)
  have HAp := box (fun y z hy hz ho => BudM.apart hf (y := y) (z := z) hy hz ho)
  have HFL := box (fun x (hx : x ∈ BudM.free m T 0) => BudM.fine_free x hx)
  have HFf := box (fun x (hx : x ∈ T ++ BudM.free m T 0) => (List.mem_append.1 hx).elim (hf x) (BudM.fine_free x))
  generalize BudM.free m T 0 = L at *
  have hL2 : L.length ≤ 1024 := by omega
  obtain ⟨bo, cap', rfl, _, hat3, hnil3, hcap3⟩ := BksAt.own hown
  have HL := box hat3; have Hnil3 := box hnil3
  have HOL := box hown
  obtain ⟨N, HN⟩ : ∃ N : Nat, Box (2 ^ m = N) := ⟨_, ⟨rfl⟩⟩
  have hN1 : N ≤ 1024 := by rw [← HN.out]; omega
  have hcN : ((2 : Int) ^ m) = (N : Int) := by rw [← HN.out]; simp
  have w5 : IntKind.i64.wrap (2 ^ m) = (N : Int) := by rw [hcN]; exact BudM.wrap_id (by omega) (by omega)
  have HcN := box hcN
  have x0 := HK3.out.cell (i := 0) rfl
  clear hown hat3 hnil3 hll hpm hpm2 hf hpw h0 e1 hcN
  have hmk := run_make_row' (P := Try.prog) 31 3 (.int .i64 0) 8 Try.underlying31 BudM.infoI rfl .i64 .i64 N (by omega) (by omega)
  go_upto_region 8 with (fail)
  have hTab : (madeCells #[Value.int .i64 0] N) = (Tab N fun _ => Value.int .i64 0).toArray := by
    have h1 := toList_madeCells_one (Value.int .i64 0) N
    have h2 : (Tab N fun _ => Value.int .i64 0) = List.replicate N (Value.int .i64 0) := by
      unfold Tab
      rw [List.map_const', List.length_range]
    rw [h2, ← h1, Array.toArray_toList]
  rw [hTab]
  clear hTab hmk x0
  obtain ⟨Bp, HBp⟩ : ∃ Bp, Box (w3.heap.size = Bp) := ⟨_, ⟨rfl⟩⟩
  refine name_world (fun V => Below w3.heap.size w3 V ∧ Blk V w3.heap.size 3 (Tab N fun _ => .int .i64 0)) ⟨(Below.refl _ _).alloc (Nat.le_refl _) _, Blk.new _ _ _⟩ ?_
  rintro V ⟨hbV, hkV⟩
  have HP := box hkV
  have HLV := box (HL.out.below hbV (Nat.le_refl _))
  have HKV := box (HK3.out.after hbV)
  have HBV := box (below_tr HB3.out hbV)
  have hsV := HBV.out.size
  have hlV := HKV.out.lt
  have hpV := hkV.lt
  have hs3 := HB3.out.size
  have hl3 := HK3.out.lt
  have x1 := HKV.out.cell (i := 1) rfl
  rw [HBp.out] at HP hpV ⊢
  have hBpw : w.heap.size < Bp := by have := HBp.out; omega
  clear hbV hkV
  go_wp2_with fail
  have hCat := concat_bks T L V.heap.size 2 ao bo cap cap' (V.alloc (.cells #[.slice ao T.length cap, .slice bo L.length cap'] 22)) ((Blk.new V [.slice ao T.length cap, .slice bo L.length cap'] _).cell rfl) ((Blk.new V [.slice ao T.length cap, .slice bo L.length cap'] _).cell rfl) (by simp) (H.out.below (HBV.out.alloc hsV _) (Nat.le_refl _)) (HLV.out.below ((Below.refl _ _).alloc (Nat.le_refl _) _) (Nat.le_refl _)) Hnil.out Hnil3.out (by omega) (by omega)
  refine hCat.mono ?_
  clear hCat
  rintro e w5 ⟨vC, rfl, hownC, hbC⟩
  have hbVC : Below V.heap.size V w5 := ((Below.refl _ _).alloc (Nat.le_refl _) _).trans (hbC.mono (by simp))
  obtain ⟨co, capC, rfl, _, hatC, _, _⟩ := BksAt.own hownC
  have hneC : ∀ b off, co = some ⟨b, off, none⟩ → b ≠ Bp := fun b off e => by
    subst e
    have h1 := (hownC.lt b rfl).1
    simp at h1
    omega
  have hneL : ∀ b off, bo = some ⟨b, off, none⟩ → b ≠ Bp := fun b off e => by
    subst e
    have h1 := (HOL.out.lt b rfl).2
    have := HBp.out
    omega
  have HneC := box hneC; have HneL := box hneL; have HC := box hatC
  have HP5 := box (HP.out.below hbVC hpV)
  have HL5 := box (HLV.out.below hbVC (Nat.le_refl _))
  have HK5 := box (HKV.out.below hbVC hlV)
  have HB5 := box (HBV.out.trans (hbVC.mono hsV))
  have hs5 := HB5.out.size
  have hp5 := HP5.out.lt
  have hl5 := HK5.out.lt
  have hlenC : (T ++ L).length ≤ 2048 := by rw [List.length_append]; omega
  clear hownC hbC hbVC hatC hneC hneL x1
  generalize T ++ L = C at *
  go_wp2_with fail
  go_loopw [51] (fun t51 wr => ∃ k : Nat, k ≤ C.length ∧ t51 = .int .i64 (k : Int) ∧ Box (Blk wr Bp 3 (Tab N fun p => .int .i64 (BudM.cnt (C.take k) (p : Int) : Int))) ∧ Box (But Bp w5 wr) ∧ Box (Below w.heap.size w wr)) (fun t51 _ => C.length - (intOf t51).toNat)
  case atStart => exact ⟨0, Nat.zero_le _, rfl, ⟨by rw [List.take_zero]; exact HP5.out⟩, ⟨But.refl _ _⟩, HB5⟩
  case round =>
    obtain ⟨k, hk, rfl, HPr, HBt, Hb⟩ := hrel
    have HKr := box (HBt.out.blk HK5.out (by omega))
    have hpr := HPr.out.lt
    have hlr := HKr.out.lt
    have hbs := Hb.out.size
    by_cases hlt : k < C.length
    case neg =>
      obtain rfl : k = C.length := by omega
      have HI : Box (IntsAt wr (some ⟨Bp, 0, none⟩) (List.replicate N 1)) := ⟨Or.inr ⟨Bp, 0, rfl, hpr, fun p hp => by
        rw [List.length_replicate] at hp
        rw [Nat.zero_add, HPr.out.tabCell hp, List.take_length, HW.out (p : Int) (by omega) (by rw [HcN.out]; omega), List.getElem_replicate]; rfl⟩⟩
      have HCF := box (containsFunc_ints (List.replicate N 1) (some ⟨Bp, 0, none⟩) N 17 #[] (fun n => n != 1) wr HI.out (by rw [List.length_replicate]; omega) (buddy_tells wr) (enters_fn Try.func17 (by kernel_rfl) rfl))
      have hany : (List.replicate N (1 : Int)).any (fun n => n != 1) = false := by
        rw [List.any_eq_false]
        intro x hx
        rw [List.eq_of_mem_replicate hx]; simp
      rw [hany, List.length_replicate] at HCF
      clear hany
      have HLr := box (HBt.out.bks HL5.out HneL.out)
      go_wp2_with fail
      refine HCF.out.mono ?_
      rintro e w8 ⟨rfl, rfl⟩
      clear HPr HI HCF
      go_wp2_with fail
      go_loopw [11] (fun t11 w9 => ∃ i : Nat, t11 = .int .i64 (i : Int) ∧ 1 ≤ i ∧ i ≤ L.length + 1 ∧ Box (Below wr.heap.size wr w9)) (fun t11 _ => L.length + 1 - (intOf t11).toNat)
      case atStart => exact ⟨1, rfl, Nat.le_refl _, by omega, ⟨Below.refl _ _⟩⟩
      case round =>
        obtain ⟨i, rfl, hi1, hi2, Hb9⟩ := hrel
        by_cases hlt : i < L.length
        case neg =>
          go_wp2_with fail
          go_ret
          exact ⟨rfl, Hb.out.trans (Hb9.out.mono hbs)⟩
        obtain ⟨b, off, rfl, hb, hrow⟩ := ((HLr.out.below Hb9.out (Nat.le_refl _)).resolve_left (by intro h; rw [h] at hlt; simp at hlt))
        obtain ⟨j, rfl⟩ : ∃ j, i = j + 1 := ⟨i - 1, by omega⟩
        obtain ⟨hc0, hc1⟩ := hrow (j + 1) hlt
        obtain ⟨hd0, hd1⟩ := hrow j (by omega)
        have HA := box (HAp.out L[j] L[j + 1] (List.getElem_mem _) (List.getElem_mem _))
        have HFx := box (HFL.out L[j] (List.getElem_mem _))
        have HFy := box (HFL.out L[j + 1] (List.getElem_mem _))
        clear hrow
        generalize L[j + 1] = y at *
        generalize L[j] = x at *
        obtain ⟨xa, xo⟩ := x
        obtain ⟨ya, yo⟩ := y
        simp only at hc0 hc1 hd0 hd1 HA
        have hij : ((j + 1 : Nat) : Int) - 1 = (j : Int) := by omega
        go_wp2_with fail
        go_cut [12, 13] (fun s12 s13 wx => ∃ B1 B2, s12 = .pointer (some ⟨B1, 0, none⟩) ∧ s13 = .pointer (some ⟨B2, 0, none⟩) ∧ Box (Below wr.heap.size wr wx) ∧ Box (Blk wx B1 29 [.int .i64 xa, .int .i64 xo]) ∧ Box (Blk wx B2 29 [.int .i64 ya, .int .i64 yo]))
        case first =>
          go_region
          · go_step
            go_step
            go_meet
            exact ⟨wr.heap.size, wr.heap.size + 1, rfl, rfl, ⟨(((Below.refl _ _).alloc (Nat.le_refl _) _).alloc (by simp) _).drew⟩, ⟨((Blk.new wr [.int .i64 xa, .int .i64 xo] _).alloc _).drew⟩, ⟨(Blk.new' (by simp) [.int .i64 ya, .int .i64 yo] _).drew⟩⟩
          · go_step
            go_step
            go_meet
            exact ⟨wr.heap.size + 1, wr.heap.size, rfl, rfl, ⟨(((Below.refl _ _).alloc (Nat.le_refl _) _).alloc (by simp) _).drew⟩, ⟨(Blk.new' (by simp) [.int .i64 xa, .int .i64 xo] _).drew⟩, ⟨((Blk.new wr [.int .i64 ya, .int .i64 yo] _).alloc _).drew⟩⟩
        case rest =>
        obtain ⟨B1, B2, rfl, rfl, Hbx, HX, HY⟩ := hcut
        have HBx9 := box (Hb9.out.trans (Hbx.out.mono Hb9.out.size))
        have x0 := HX.out.cell (i := 0) rfl
        have x1 := HX.out.cell (i := 1) rfl
        have y0 := HY.out.cell (i := 0) rfl
        have y1 := HY.out.cell (i := 1) rfl
        clear hc0 hc1 hd0 hd1
        obtain ⟨f0, f1, f2, _, f4⟩ := HFx.out
        obtain ⟨_, _, g2, _, g4⟩ := HFy.out
        simp only at f0 f1 f2 f4 g2 g4
        have hpx := BudM.pow_pos xo.toNat
        have hpy := BudM.pow_pos yo.toNat
        have hpm := BudM.pow_hi hm
        obtain ⟨o, rfl⟩ := Int.eq_ofNat_of_zero_le f0
        have eo : ((o : Int)).toNat = o := by omega
        have hbits := BudM.xor_i64 xa ya f2 (by omega) g2 (by omega)
        obtain ⟨Vx, HVx⟩ : ∃ Vx : Int, Box (((xa.toNat ^^^ ya.toNat : Nat) : Int) = Vx) := ⟨_, ⟨rfl⟩⟩
        rw [HVx.out] at hbits
        obtain ⟨X, HXo⟩ : ∃ X : Int, Box ((2 : Int) ^ o = X) := ⟨_, ⟨rfl⟩⟩
        rw [eo] at hpx f4
        have w6 : IntKind.i64.wrap (2 ^ o) = X := by rw [HXo.out]; rw [HXo.out] at hpx f4; exact BudM.wrap_id (by omega) (by omega)
        cases q1 : ((o : Int) == yo) with
        | false =>
          clear f4 g4 hpx hpy hpm
          go_wp2_with fail
          go_quiet (fail)
          go_wp2_with fail
          exact ⟨⟨j + 2, by go_num, by omega, by omega, ⟨bud_dN HBx9.out _⟩⟩, by simp [intOf]; omega⟩
        | true =>
          have q2 : (Vx == X) = false := by
            rw [beq_eq_false_iff_ne]
            intro h
            have h1 := HA.out (by rw [beq_iff_eq] at q1; exact q1)
            apply h1
            rw [eo]
            have h3 := HVx.out.trans (h.trans HXo.out.symm)
            have h4 : ((xa.toNat ^^^ ya.toNat : Nat) : Int) = ((2 ^ o : Nat) : Int) := by rw [h3]; simp
            omega
          clear f4 g4 hpx hpy hpm
          go_wp2_with fail
          go_quiet (fail)
          go_wp2_with fail
          exact ⟨⟨j + 2, by go_num, by omega, by omega, ⟨bud_dN HBx9.out _⟩⟩, by simp [intOf]; omega⟩
    obtain ⟨b, off, rfl, hb, hrow⟩ := ((HBt.out.bks HC.out HneC.out).resolve_left (by intro h; rw [h] at hlt; simp at hlt))
    obtain ⟨hc0, hc1⟩ := hrow k hlt
    obtain ⟨q0, q1, q2, ⟨q, q3⟩, q4⟩ := HFf.out _ (List.getElem_mem hlt)
    have HEnd := box (fun X p => BudM.plc_end C k X hlt p)
    clear hrow
    generalize hx : C[k] = x at *
    clear hx
    obtain ⟨xa, xo⟩ := x
    simp only at hc0 hc1 q0 q1 q2 q3 q4
    obtain ⟨o, rfl⟩ := Int.eq_ofNat_of_zero_le q0
    have eo : ((o : Int)).toNat = o := by omega
    rw [eo] at q3 q4
    obtain ⟨X, HX⟩ : ∃ X : Int, Box ((2 : Int) ^ o = X) := ⟨2 ^ o, ⟨rfl⟩⟩
    rw [HX.out] at q3 q4
    rw [HcN.out] at q4
    have hX0 : (0 : Int) < X := by rw [← HX.out]; exact BudM.pow_pos o
    have hX1 : ¬ X = 0 := by omega
    have hX2 : xa.tmod X = 0 := by rw [q3]; exact Int.mul_tmod_left _ _
    have w6 : IntKind.i64.wrap (2 ^ o) = X := by rw [HX.out]; exact BudM.wrap_id (by omega) (by omega)
    have w7 : IntKind.i64.wrap (xa + X) = xa + X := BudM.wrap_id (by omega) (by omega)
    have d4 : decide ((N : Int) < xa + X) = false := by simp; omega
    have d3 : decide (m < o) = false := by simp; omega
    have d1 : decide (xa < 0) = false := by simp; omega
    have Q3 := box q3
    clear q3
    go_upto_region 11 with (fail)
    refine name_world (fun W => Below wr.heap.size wr W ∧ Blk W wr.heap.size 29 [.int .i64 xa, .int .i64 (o : Int)]) ⟨(Below.refl _ _).alloc (Nat.le_refl _) _, Blk.new _ _ _⟩ ?_
    rintro W6 ⟨hbW, hkW⟩
    have HbW := box (Hb.out.trans (hbW.mono hbs))
    have HBtW := box (HBt.out.below hbW (Nat.le_refl _))
    have HPW := box (HPr.out.after hbW)
    have HKW := box (HKr.out.after hbW)
    have HXW := box hkW
    have x0 := HKW.out.cell (i := 0) rfl
    have y0 := hkW.cell (i := 0) rfl
    have y1 := hkW.cell (i := 1) rfl
    clear hbW hkW hc0 hc1
    obtain ⟨Bx, HBx⟩ : ∃ Bx, Box (wr.heap.size = Bx) := ⟨_, ⟨rfl⟩⟩
    have hBx : Bx ≠ Bp := by have := HBx.out; omega
    rw [HBx.out] at y0 y1 HXW ⊢
    go_wp2_with fail
    go_quiet (fail)
    go_wp2_with fail
    obtain ⟨a, rfl⟩ := Int.eq_ofNat_of_zero_le q2
    obtain ⟨Xn, rfl⟩ := Int.eq_ofNat_of_zero_le (Int.le_of_lt hX0)
    obtain ⟨V6, HV6⟩ : ∃ V6, Box (W6.drewN nq = V6) := ⟨_, ⟨rfl⟩⟩
    have HbV : Box (Below w.heap.size w V6) := ⟨by rw [← HV6.out]; exact bud_dN HbW.out _⟩
    have HBtV : Box (But Bp w5 V6) := ⟨by rw [← HV6.out]; exact HBtW.out⟩
    have HPV : Box (Blk V6 Bp 3 (Tab N fun p => .int .i64 (BudM.plc C k 0 (a : Int) p))) := ⟨by
      rw [← HV6.out, show (fun p => Value.int .i64 (BudM.plc C k 0 (a : Int) p)) = (fun p => .int .i64 (BudM.cnt (C.take k) (p : Int) : Int)) from funext fun p => by rw [BudM.plc_zero]]
      exact HPW.out⟩
    have HXV : Box (Blk V6 Bx 29 [.int .i64 (a : Int), .int .i64 (o : Int)]) := ⟨by rw [← HV6.out]; exact HXW.out⟩
    rw [HV6.out]
    clear x0 y0 y1 hX1 hX2 w6 w7 d4 d3 d1
    go_loopw [93] (fun t93 w7 => ∃ i : Nat, i ≤ Xn ∧ t93 = .int .i64 (i : Int) ∧ Box (Blk w7 Bp 3 (Tab N fun p => .int .i64 (BudM.plc C k i (a : Int) p))) ∧ Box (But Bp w5 w7) ∧ Box (Below w.heap.size w w7) ∧ Box (Blk w7 Bx 29 [.int .i64 (a : Int), .int .i64 (o : Int)])) (fun t93 _ => Xn - (intOf t93).toNat)
    case atStart => exact ⟨0, Nat.zero_le _, rfl, HPV, HBtV, HbV, HXV⟩
    case round =>
      obtain ⟨i, hi, rfl, HPi, HBi, Hbi, HXi⟩ := hrel
      have hpi := HPi.out.lt
      have hbi := Hbi.out.size
      by_cases hlt2 : i < Xn
      · have y0 := HXi.out.cell (i := 0) rfl
        have hai : a + i < N := by omega
        have hcell := HPi.out.tabCell hai
        have hfz := HPi.out.frozen (a + i)
        obtain ⟨v0, v1⟩ := BudM.plc_bnd C k i (a : Int) (a + i)
        have HSt : Box (Blk (wr.setCell ⟨Bp, a + i, none⟩ (.int .i64 (BudM.plc C k i (a : Int) (a + i) + 1))) Bp 3 (Tab N fun p => .int .i64 (BudM.plc C k (i + 1) (a : Int) p))) := ⟨by
          have h1 := HPi.out.tabSet (a + i) (.int .i64 (BudM.plc C k i (a : Int) (a + i) + 1))
          rw [show (fun p => Value.int .i64 (BudM.plc C k (i + 1) (a : Int) p)) = upd (fun p => Value.int .i64 (BudM.plc C k i (a : Int) p)) (a + i) (.int .i64 (BudM.plc C k i (a : Int) (a + i) + 1)) from funext fun p => by
            rw [← BudM.plc_step]; simp only [upd]; split <;> rfl]
          exact h1⟩
        have w8 : IntKind.i64.wrap (BudM.plc C k i (a : Int) (a + i) + 1) = BudM.plc C k i (a : Int) (a + i) + 1 := BudM.wrap_id (by omega) (by omega)
        have hi3 : (i : Int) < (Xn : Int) := by omega
        generalize BudM.plc C k i (a : Int) (a + i) = pv at *
        go_wp2_with fail
        go_roundw
        case rel => exact ⟨i + 1, hlt2, by go_num, HSt, ⟨HBi.out.set _ _⟩, ⟨Hbi.out.setCell (by simp; omega) _⟩, ⟨HXi.out.other (by simpa using hBx) _⟩⟩
        case measure => simp [intOf]; omega
      · obtain rfl : i = Xn := by omega
        have HPe : Box (Blk wr Bp 3 (Tab N fun p => .int .i64 (BudM.cnt (C.take (k + 1)) (p : Int) : Int))) := ⟨by
          rw [show (fun p : Nat => Value.int .i64 (BudM.cnt (C.take (k + 1)) (p : Int) : Int)) = (fun p => .int .i64 (BudM.plc C k i (a : Int) p)) from funext fun p => by rw [HEnd.out i p (by rw [eo]; exact HX.out)]]
          exact HPi.out⟩
        go_wp2_with fail
        go_roundw
        case rel => exact ⟨k + 1, hlt, by go_num, HPe, HBi, Hbi⟩
        case measure => simp [intOf]; omega
namespace lawBuddyWhole
open Go.ChangeShapes Go.WideShapes Go.ChangeAt Go.RowKit Go.ChangeMaps

set_option maxRecDepth 100000 in
theorem lifted (os : Os) (started : os.Started) (H : Type) (enc : TypeId × Value → H) :
    ReturnsInHanded {} Try.checked os 3 .any (Rows.buddyWholeSpec.pre6 enc Try.prog Try.f3 [] false) (Rows.buddyWholeSpec.post enc Try.prog Try.f3 false true false false) := by
  refine LawKit.law_lifted started (by kernel_rfl) Try.func3 rfl
    (fun ds h => by
      match ds, h with
      | [_], _ => rfl)
    rfl Try.underlying4 (by intro t ht; exact of_decide_eq_true (p := Try.prog.readableRec t = true ∧ t < Try.prog.types.size) (by revert t ht; decide +kernel))
    (ChangeSpec.witness6 (enc := enc) (C := Try.checked) false ⟨#[], #[.agg #[.int .i64 0, .slice none 0 0]], []⟩ 8 (by kernel_rfl) (by kernel_rfl) (by kernel_rfl) (by kernel_rfl)) ?_
  intro W base args ds ps hval hA hsz hlt hfz
  have hA' := hA
  rw [Try.params3] at hA hval
  obtain ⟨v0, vs0, d0, ds0, p0, q0, hargs, rfl, rfl, h0, r0⟩ := trodAll_cons hA
  obtain ⟨rfl, rfl, rfl⟩ := trodAll_nil r0
  obtain rfl : args = #[v0] := by cases args; simp_all
  obtain ⟨n, ao, cap, ls, rfl, hnil, hat, hlen⟩ := open_buddy (hval 0 _ _ rfl rfl) h0 (Open.weights_bound hsz (j := 0) (by rw [Try.params3]; rfl) rfl)
  refine (buddyWhole_calls n ls ao cap W hat hlen hnil).mono ?_
  rintro e W' ⟨rfl, hb⟩
  exact ⟨rfl, hb⟩

theorem proved : Rows.BuddyWholeSaid :=
  OpenClaim.holds_of_wide 3 Try.f3 rfl rfl rfl rfl rfl rfl rfl ⟨rfl, rfl, rfl, rfl, rfl⟩ rfl rfl rfl rfl rfl (by kernel_rfl) Try.func3 (by kernel_rfl)
    (of_decide_eq_true (by kernel_rfl)) (by unfold Func.isWrapper; first | (rw [if_pos (by decide +kernel)]; kernel_rfl) | (rw [if_neg (by decide +kernel)]; exact ⟨rfl, rfl⟩))
    (fun os started H enc _ => lifted os started H enc)
end lawBuddyWhole
end Go.Proofs.Ytlmibgjflgkalaa
