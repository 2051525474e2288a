/- WaitDead is proved for every input: no condition stands ahead of it. -/
import Derived.Test.YtagnhgdpipepeaaLawKit
import Derived.Test.YtagnhgdpipepeaaGrR
import Derived.Test.YtagnhgdpipepeaaWtD
import Derived.Test.YtagnhgdpipepeaaIntEq
import Derived.Test.YtagnhgdpipepeaaEgOpen
namespace Go.Proofs.Ytagnhgdpipepeaa
open Go.RowKit Go.Lib

theorem GrM.mem_bits {m k : Nat} {S : Nat → Bool} (hk : k < m) : decide ((k : Int) ∈ GrM.ints ((List.range m).filter S)) = S k := by
  rw [Bool.eq_iff_iff, decide_eq_true_iff]
  unfold GrM.ints
  rw [List.mem_map]
  constructor
  · rintro ⟨y, hy, he⟩
    have : y = k := by omega
    subst this
    exact (List.mem_filter.1 hy).2
  · intro h
    exact ⟨k, List.mem_filter.2 ⟨List.mem_range.2 hk, h⟩, rfl⟩
theorem GrM.bits_len (m : Nat) (S : Nat → Bool) : ((List.range m).filter S).length ≤ m := Nat.le_trans (List.length_filter_le _ _) (by simp)
theorem GrM.Path.has {n : Nat} {l : List EgM} {a b : Nat} (h : GrM.Path n l a b) : ∃ c, GrM.E l a c = true := by
  induction h with
  | one _ h2 => exact ⟨_, h2⟩
  | more _ _ _ ih => exact ih
/-- The law's first call. -/
def WaitM.DeadX (w : World) (e : Ending) (w' : World) : Prop := ∃ v, e = .returned (.tuple #[v, .int .i64 0]) ∧ (∃ ao c, v = .slice ao 3 c ∧ IntsAt w' ao [0, 1, 2]) ∧ Below w.heap.size w w'
theorem dead_x (w : World) (ao : Option Addr) (h : EgsAt w ao [⟨0, 1⟩, ⟨1, 0⟩, ⟨2, 0⟩]) (hn : ao = none → (3 : Nat) = 0) : Calls Try.prog 16 #[.int .i64 4, .slice ao 3 3] w (WaitM.DeadX w) := by
  refine (waitDead_any 4 [⟨0, 1⟩, ⟨1, 0⟩, ⟨2, 0⟩] ao 3 w h hn (by decide)).mono ?_
  rintro e w' ⟨hb, ⟨h1, _⟩ | ⟨_, m, D, v, hm, hD, rfl, ho⟩⟩
  · exact absurd (show GrM.check 4 [⟨0, 1⟩, ⟨1, 0⟩, ⟨2, 0⟩] = 0 from by decide) h1
  · obtain rfl : m = 4 := by omega
    have p01 : GrM.Path 4 [⟨0, 1⟩, ⟨1, 0⟩, ⟨2, 0⟩] 0 1 := .one (by decide) (by decide)
    have p10 : GrM.Path 4 [⟨0, 1⟩, ⟨1, 0⟩, ⟨2, 0⟩] 1 0 := .one (by decide) (by decide)
    have p20 : GrM.Path 4 [⟨0, 1⟩, ⟨1, 0⟩, ⟨2, 0⟩] 2 0 := .one (by decide) (by decide)
    have d0 : D 0 = true := (hD 0 (by decide)).2 (Or.inl (p01.trans p10))
    have d1 : D 1 = true := (hD 1 (by decide)).2 (Or.inl (p10.trans p01))
    have d2 : D 2 = true := (hD 2 (by decide)).2 (Or.inr ⟨0, p20, p01.trans p10⟩)
    have d3 : D 3 = false := by
      cases h3 : D 3 with
      | false => rfl
      | true =>
        exfalso
        have hno : ∀ c, ¬ GrM.E [⟨0, 1⟩, ⟨1, 0⟩, ⟨2, 0⟩] 3 c = true := by
          intro c h
          rw [GrM.E_iff] at h
          simp at h
        rcases (hD 3 (by decide)).1 h3 with h | ⟨i, h, _⟩
        · obtain ⟨c, hc⟩ := h.has; exact hno c hc
        · obtain ⟨c, hc⟩ := h.has; exact hno c hc
    have hr : (List.range 4).filter D = [0, 1, 2] := by
      rw [show List.range 4 = [0, 1, 2, 3] from rfl]
      simp [d0, d1, d2, d3]
    rw [hr] at ho
    obtain ⟨ko, kc, rfl, _, hat, _, _⟩ := IntsAt.own (l := GrM.ints [0, 1, 2]) ho
    exact ⟨_, rfl, ⟨ko, kc, rfl, hat⟩, hb⟩
/-- Reach, where its arguments are in their bounds. -/
def GrM.ReachOk (m : Nat) (l : List EgM) (x : Nat) (w : World) (e : Ending) (w' : World) : Prop :=
  Below w.heap.size w w' ∧ ∃ (S : Nat → Bool) (a : Option Addr) (c : Nat), (∀ b, S b = true ↔ GrM.Path m l x b) ∧ e = .returned (.tuple #[.slice a ((List.range m).filter S).length c, .int .i64 0]) ∧ IntsAt w' a (GrM.ints ((List.range m).filter S))
theorem reach_ok (m : Nat) (l : List EgM) (x : Nat) (hx : x < m) (hc : GrM.check m l = 0) (ao : Option Addr) (cap : Nat) (w : World) (h : EgsAt w ao l) (hn : l.length ≤ 9000000000000) :
    Calls Try.prog 12 #[.int .i64 (m : Int), .slice ao l.length cap, .int .i64 (x : Int)] w (GrM.ReachOk m l x w) := by
  refine (graphReach_any m l x ao cap w h hn).mono ?_
  rintro e w' ⟨hb, ⟨h1, _⟩ | ⟨_, h1, _⟩ | ⟨_, m2, x2, S, v, hm2, hx2, _, hS, rfl, hown⟩⟩
  · exact absurd hc h1
  · exfalso; omega
  · obtain rfl : m = m2 := by omega
    obtain rfl : x = x2 := by omega
    obtain ⟨va, vc, rfl, _, hat, _, _⟩ := IntsAt.own hown
    exact ⟨hb, S, va, vc, hS, by rw [GrM.ints_len], hat⟩
theorem contains_bits (m : Nat) (S : Nat → Bool) (k : Nat) (hk : k < m) (hm : m ≤ 60) (a : Option Addr) (c : Nat) (w : World) (h : IntsAt w a (GrM.ints ((List.range m).filter S))) :
    Calls Try.prog 13 #[.slice a ((List.range m).filter S).length c, .int .i64 (k : Int)] w fun e w' => e = .returned (.bool (S k)) ∧ w = w' := by
  have h1 := contains_ints (GrM.ints ((List.range m).filter S)) k a c w h (by rw [GrM.ints_len]; have := GrM.bits_len m S; omega)
  rw [GrM.ints_len, GrM.mem_bits hk] at h1
  exact h1

set_option maxRecDepth 20000 in
set_option maxHeartbeats 8000000 in
theorem waitDead_calls (n : Int) (L : List EgM) (ao : Option Addr) (cap : Nat) (w : World) (h : EgsAt w ao L) (hnil : ao = none → cap = 0) (hlen : L.length ≤ 8796093022207) :
    Calls Try.prog 4 #[.int .i64 n, .slice ao L.length cap] w fun e w' => e = .returned (.bool true) ∧ Below w.heap.size w w' := by
  have H := box h
  have HNil := box hnil
  have HX := box (fun w ao h hn => dead_x w ao h hn)
  clear h hnil
  go_enter Try.func4, Try.ntmps4
  go_wp2_with fail
  refine (HX.out _ (some ⟨w.heap.size, 0, none⟩) (Or.inr ⟨w.heap.size, 0, rfl, by simp, fun k hk => by
    obtain rfl | rfl | rfl : k = 0 ∨ k = 1 ∨ k = 2 := by simp at hk; omega
    all_goals exact ⟨(Blk.new w [.int .i64 0, .int .i64 1, .int .i64 1, .int .i64 0, .int .i64 2, .int .i64 0] 28).cell rfl, (Blk.new w [.int .i64 0, .int .i64 1, .int .i64 1, .int .i64 0, .int .i64 2, .int .i64 0] 28).cell rfl⟩⟩) (by simp)).mono ?_
  rintro e w1 ⟨v, rfl, ⟨ko, kc, rfl, hat⟩, hb1⟩
  have HB1 := box (((Below.refl _ _).alloc (Nat.le_refl _) _).trans (hb1.mono (by simp)))
  have HAt := box hat
  clear hat hb1
  go_wp2_with fail
  refine (equalInts_same [0, 1, 2] ko (some ⟨w1.heap.size, 0, none⟩) kc 3 _ (HAt.out.below ((Below.refl _ _).alloc (Nat.le_refl _) _) (Nat.le_refl _)) (Or.inr ⟨w1.heap.size, 0, rfl, by simp, fun k hk => by
    rw [Nat.zero_add]
    exact (Blk.new w1 (intVals [0, 1, 2]) 3).cell (intVals_get hk)⟩) (by simp)).mono ?_
  rintro e w2 ⟨rfl, n2, rfl⟩
  have HB2 : Box (Below w.heap.size w ((w1.alloc (.cells #[.int .i64 0, .int .i64 1, .int .i64 2] 3)).drewN n2)) := ⟨(HB1.out.alloc HB1.out.size _).trans ⟨rfl, rfl, rfl, Nat.le_refl _, fun _ _ => rfl⟩⟩
  generalize (w1.alloc (.cells #[.int .i64 0, .int .i64 1, .int .i64 2] 3)).drewN n2 = W2 at *
  clear HAt HB1
  go_wp2_with fail
  refine (waitDead_any n L ao cap W2 (H.out.below HB2.out (Nat.le_refl _)) HNil.out (by omega)).mono ?_
  rintro e W3 ⟨hb3, hc⟩
  have HB3 := box (below_tr HB2.out hb3)
  clear hb3
  rcases hc with ⟨hc0, rfl⟩ | ⟨hc0, m, D, v, rfl, hD, rfl, hown⟩
  · have HC := box hc0
    obtain ⟨c, Hc⟩ : ∃ c, Box (GrM.check n L = c) := ⟨_, ⟨rfl⟩⟩
    have c1 : (c != 0) = true := by simp; rw [← Hc.out]; exact hc0
    rw [Hc.out]
    clear hc0
    go_wp2_with fail
    go_ret
    exact ⟨rfl, HB3.out⟩
  obtain ⟨m', hm', hm6, hl2, _⟩ := GrM.check_ok hc0
  obtain rfl : m = m' := by omega
  have HC := box hc0
  have HD := box hD
  obtain ⟨va, vc, rfl, h5, hat, h6, h7⟩ := IntsAt.own hown
  rw [GrM.ints_len]
  clear h5 h6 h7
  have HDt := box hat
  obtain ⟨DL, HDL⟩ : ∃ DL, Box (((List.range m).filter D).length = DL) := ⟨_, ⟨rfl⟩⟩
  rw [HDL.out]
  clear hc0 hD hown hat hm'
  go_wp2_with fail
  go_loopw [45] (fun t45 wr => ∃ k : Nat, k ≤ m ∧ t45 = .int .i64 (k : Int) ∧ Box (Below w.heap.size w wr ∧ IntsAt wr va (GrM.ints ((List.range m).filter D)))) (fun t45 _ => m - (RowKit.intOf t45).toNat)
  case atStart => exact ⟨0, Nat.zero_le _, rfl, ⟨HB3.out, HDt.out⟩⟩
  case round =>
    obtain ⟨k, hk, rfl, HR⟩ := hrel
    by_cases hkm : k < m
    case neg =>
      obtain rfl : k = m := by omega
      go_wp2_with fail
      go_ret
      exact ⟨rfl, HR.out.1⟩
    have hkm2 : (k : Int) < (m : Int) := by omega
    go_wp2_with fail
    refine (reach_ok m L k hkm HC.out ao cap wr (H.out.below HR.out.1 (Nat.le_refl _)) (by omega)).mono ?_
    rintro e w5 ⟨hb5, S, sa, sc, hS, rfl, hat5⟩
    have HB5 := box (below_tr HR.out.1 hb5)
    have HD5 := box (HR.out.2.below hb5 (Nat.le_refl _))
    have HS := box hS
    have HAt5 := box hat5
    have HCt := box (contains_bits m S k hkm hm6 sa sc w5 hat5)
    obtain ⟨SL, HSL⟩ : ∃ SL, Box (((List.range m).filter S).length = SL) := ⟨_, ⟨rfl⟩⟩
    rw [HSL.out] at HCt ⊢
    have hSL : SL ≤ 60 := by have := GrM.bits_len m S; have := HSL.out; omega
    clear hb5 hS hat5
    go_wp2_with fail
    refine HCt.out.mono ?_
    rintro e w6 ⟨rfl, rfl⟩
    go_wp2_with fail
    go_loopw [12, 60] (fun t12 t60 wx => ∃ (j : Nat) (b : Bool), j ≤ SL ∧ t60 = .int .i64 (j : Int) ∧ t12 = .bool b ∧ Box (Below w.heap.size w wx ∧ IntsAt wx va (GrM.ints ((List.range m).filter D)) ∧ IntsAt wx sa (GrM.ints ((List.range m).filter S)) ∧ (b = true ↔ GrM.Path m L k k ∨ ∃ i ∈ ((List.range m).filter S).take j, GrM.Path m L i i))) (fun _ t60 _ => SL - (RowKit.intOf t60).toNat)
    case atStart => exact ⟨0, S k, Nat.zero_le _, rfl, rfl, ⟨HB5.out, HD5.out, HAt5.out, by rw [HS.out k]; simp⟩⟩
    case round =>
      obtain ⟨j, b, hj, rfl, rfl, HI⟩ := hrel
      by_cases hjS : j < SL
      case neg =>
        obtain rfl : j = SL := by omega
        have HbD : Box (b = D k) := ⟨by
          rw [Bool.eq_iff_iff, HI.out.2.2.2, HD.out k hkm, List.take_of_length_le (by rw [HSL.out]; exact Nat.le_refl _)]
          constructor
          · rintro (h1 | ⟨i, hi, h1⟩)
            · exact Or.inl h1
            · exact Or.inr ⟨i, (HS.out i).1 (List.mem_filter.1 hi).2, h1⟩
          · rintro (h1 | ⟨i, hi, h1⟩)
            · exact Or.inl h1
            · exact Or.inr ⟨i, List.mem_filter.2 ⟨List.mem_range.2 hi.lt, (HS.out i).2 hi⟩, h1⟩⟩
        have HCd := box (contains_bits m D k hkm hm6 va vc wr HI.out.2.1)
        rw [HDL.out] at HCd
        rw [HbD.out]
        generalize D k = dk at *
        have hdd : (dk != dk) = false := by simp
        go_wp2_with fail
        refine HCd.out.mono ?_
        rintro e w7 ⟨rfl, rfl⟩
        go_wp2_with fail
        go_roundw
        case rel => exact ⟨k + 1, by omega, by go_num, ⟨HI.out.1, HI.out.2.1⟩⟩
        case measure => simp [RowKit.intOf]; omega
      have hjl : j < ((List.range m).filter S).length := by rw [HSL.out]; exact hjS
      obtain ⟨rb, roff, rfl, hrb, hrow⟩ := HI.out.2.2.1.resolve_left (by intro h; have := congrArg List.length h; rw [GrM.ints_len, List.length_nil] at this; omega)
      have c1 := hrow j (by rw [GrM.ints_len]; exact hjl)
      have hri : (GrM.ints ((List.range m).filter S))[j]'(by rw [GrM.ints_len]; exact hjl) = ((((List.range m).filter S)[j] : Nat) : Int) := by simp [GrM.ints]
      rw [hri] at c1
      have hym : ((List.range m).filter S)[j] < m := List.mem_range.1 (List.mem_filter.1 (List.getElem_mem hjl)).1
      have htk := GrM.take_step hjl
      obtain ⟨y, HY⟩ : ∃ y, Box (((List.range m).filter S)[j] = y) := ⟨_, ⟨rfl⟩⟩
      rw [HY.out] at c1 hym
      simp only [HY.out] at htk
      have HTk := box htk
      have hym2 : (y : Int) < (m : Int) := by omega
      clear hrow hri htk hrb
      go_wp2_with fail
      refine (reach_ok m L y hym HC.out ao cap wr (H.out.below HI.out.1 (Nat.le_refl _)) (by omega)).mono ?_
      rintro e w7 ⟨hb7, S2, sa2, sc2, hS2, rfl, hat7⟩
      have HB7 := box (below_tr HI.out.1 hb7)
      have HD7 := box (HI.out.2.1.below hb7 (Nat.le_refl _))
      have HA7 := box (HI.out.2.2.1.below hb7 (Nat.le_refl _))
      have HS2 := box (hS2 y)
      have HC2 := box (contains_bits m S2 y hym hm6 sa2 sc2 w7 hat7)
      obtain ⟨SL2, HSL2⟩ : ∃ SL, Box (((List.range m).filter S2).length = SL) := ⟨_, ⟨rfl⟩⟩
      rw [HSL2.out] at HC2 ⊢
      clear hb7 hS2 hat7
      have HStep : Box ((∃ i ∈ ((List.range m).filter S).take (j + 1), GrM.Path m L i i) ↔ (∃ i ∈ ((List.range m).filter S).take j, GrM.Path m L i i) ∨ GrM.Path m L y y) := ⟨by
        constructor
        · rintro ⟨i, hi, h1⟩
          rcases (HTk.out i).1 hi with rfl | hi
          · exact Or.inr h1
          · exact Or.inl ⟨i, hi, h1⟩
        · rintro (⟨i, hi, h1⟩ | h1)
          · exact ⟨i, (HTk.out i).2 (Or.inr hi), h1⟩
          · exact ⟨y, (HTk.out y).2 (Or.inl rfl), h1⟩⟩
      cases hb : b with
      | true =>
        have HNx : Box ((true : Bool) = true ↔ GrM.Path m L k k ∨ ∃ i ∈ ((List.range m).filter S).take (j + 1), GrM.Path m L i i) := ⟨by
          have h1 := HI.out.2.2.2
          rw [hb] at h1
          rw [HStep.out, ← or_assoc]
          exact ⟨fun h => Or.inl (h1.1 h), fun _ => rfl⟩⟩
        go_wp2_with fail
        go_roundw
        case rel => exact ⟨j + 1, true, by omega, by go_num, rfl, ⟨HB7.out, HD7.out, HA7.out, by simpa using HNx.out⟩⟩
        case measure => simp [RowKit.intOf]; omega
      | false =>
        have HNx : Box (S2 y = true ↔ GrM.Path m L k k ∨ ∃ i ∈ ((List.range m).filter S).take (j + 1), GrM.Path m L i i) := ⟨by
          have h1 := HI.out.2.2.2
          rw [hb] at h1
          rw [HStep.out, ← or_assoc, HS2.out]
          exact ⟨fun h => Or.inr h, fun h => h.resolve_left (fun h2 => by have := h1.2 h2; cases this)⟩⟩
        generalize S2 y = b2 at *
        go_wp2_with fail
        refine HC2.out.mono ?_
        rintro e w8 ⟨rfl, rfl⟩
        go_wp2_with fail
        go_roundw
        case rel => exact ⟨j + 1, b2, by omega, by go_num, rfl, ⟨HB7.out, HD7.out, HA7.out, HNx.out⟩⟩
        case measure => simp [RowKit.intOf]; omega
namespace lawWaitDead
open Go.ChangeShapes Go.WideShapes Go.ChangeAt Go.RowKit Go.ChangeMaps

set_option maxRecDepth 100000 in
theorem lifted (os : Os) (started : os.Started) (H : Type) (enc : TypeId × Value → H) :
    ReturnsInHanded {} Try.checked os 4 .any (Rows.waitDeadSpec.pre6 enc Try.prog Try.f4 [] false) (Rows.waitDeadSpec.post enc Try.prog Try.f4 false true false false) := by
  refine LawKit.law_lifted started (by kernel_rfl) Try.func4 rfl
    (fun ds h => by
      match ds, h with
      | [_, _], _ => rfl)
    rfl Try.underlying4 (by intro t ht; exact of_decide_eq_true (p := Try.prog.readableRec t = true ∧ t < Try.prog.types.size) (by revert t ht; decide +kernel))
    (ChangeSpec.witness6 (enc := enc) (C := Try.checked) false ⟨#[], #[.int .i64 0, .slice none 0 0], []⟩ 8 (by kernel_rfl) (by kernel_rfl) (by kernel_rfl) (by kernel_rfl)) ?_
  intro W base args ds ps hval hA hsz hlt hfz
  have hA' := hA
  rw [Try.params4] at hA hval
  obtain ⟨v0, vs0, d0, ds0, p0, q0, hargs, rfl, rfl, h0, r0⟩ := trodAll_cons hA
  obtain ⟨v1, vs1, d1, ds1, p1, q1, rfl, rfl, rfl, h1, r1⟩ := trodAll_cons r0
  obtain ⟨rfl, rfl, rfl⟩ := trodAll_nil r1
  obtain rfl : args = #[v0, v1] := by cases args; simp_all
  go_open 0 n
  obtain ⟨ao, cap, L, rfl, hat, _, hnl, hln⟩ := open_egs (hval 1 _ _ rfl rfl) h1 (Open.weights_bound hsz (j := 1) (by rw [Try.params4]; rfl) rfl)
  refine (waitDead_calls n L ao cap W hat hnl (by omega)).mono ?_
  rintro e W' ⟨rfl, hb⟩
  exact ⟨rfl, hb⟩

theorem proved : Rows.WaitDeadSaid :=
  OpenClaim.holds_of_wide 4 Try.f4 rfl rfl rfl rfl rfl rfl rfl ⟨rfl, rfl, rfl, rfl, rfl⟩ rfl rfl rfl rfl rfl (by kernel_rfl) Try.func4 (by kernel_rfl)
    (of_decide_eq_true (by kernel_rfl)) (by unfold Func.isWrapper; first | (rw [if_pos (by decide +kernel)]; kernel_rfl) | (rw [if_neg (by decide +kernel)]; exact ⟨rfl, rfl⟩))
    (fun os started H enc _ => lifted os started H enc)
end lawWaitDead
end Go.Proofs.Ytagnhgdpipepeaa
