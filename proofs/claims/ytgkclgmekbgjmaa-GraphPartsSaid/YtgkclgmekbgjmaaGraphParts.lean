/- GraphParts is proved for every input. -/
import Derived.Test.YtgkclgmekbgjmaaLawKit
import Derived.Test.YtgkclgmekbgjmaaTjL
import Derived.Test.YtgkclgmekbgjmaaGrR
import Derived.Test.YtgkclgmekbgjmaaIntEq
import Derived.Test.YtgkclgmekbgjmaaEgOpen
namespace Go.Proofs.Ytgkclgmekbgjmaa
open Go.RowKit Go.Lib

/-- The parts, as they are read in later worlds. -/
structure TjM.PartsAt (w : World) (P : List (List Nat)) (pa : Option Addr) (v : Nat → Value) : Prop where
  row : ∀ i (h : i < P.length), ∃ g, pa = some ⟨g, 0, none⟩ ∧ w.cell? ⟨g, i, none⟩ = some (v i) ∧ g < w.heap.size ∧ ∃ a c, v i = .slice a P[i].length c ∧ IntsAt w a (GrM.ints P[i])
theorem TjM.PartsAt.below {w w' : World} {B : Nat} {P : List (List Nat)} {pa : Option Addr} {v : Nat → Value} (h : TjM.PartsAt w P pa v) (hb : Below B w w') (hB : w.heap.size ≤ B) : TjM.PartsAt w' P pa v :=
  ⟨fun i hi => by
    obtain ⟨g, h1, h2, h3, a, c, h4, h5⟩ := h.row i hi
    exact ⟨g, h1, (hb.cell (p := ⟨g, i, none⟩) (Nat.lt_of_lt_of_le h3 hB)).trans h2, Nat.lt_of_lt_of_le h3 hb.size, a, c, h4, h5.below hb hB⟩⟩
theorem TjM.partsAt {w : World} {base : Nat} {P : List (List Nat)} {v : Nat → Value} {pv : Value} (hT : w.ownsRow base 31 1 pv P.length ((List.range P.length).map v)) (hR : ∀ i (h : i < P.length), w.ownsRow base 3 1 (v i) (P[i]).length (intVals (GrM.ints P[i]))) :
    ∃ pa pc, pv = .slice pa P.length pc ∧ TjM.PartsAt w P pa v := by
  rcases hT.2 with ⟨h1, h2⟩ | ⟨g, cap, cur, h1, _, h3, _⟩
  · exact ⟨none, 0, by rw [h1, h2], ⟨fun i hi => by omega⟩⟩
  · refine ⟨some ⟨g, 0, none⟩, cap, h1, ⟨fun i hi => ⟨g, rfl, ?_, (Array.getElem?_eq_some_iff.1 h3).1, ?_⟩⟩⟩
    · have hT2 := hT
      rw [h1] at hT2
      rw [hT2.cellAt i (by omega)]
      simp [hi]
    · obtain ⟨a, c, e, _, hat, _, _⟩ := IntsAt.own (hR i hi)
      exact ⟨a, c, by rw [e]; simp [GrM.ints], hat⟩
/-- The example. -/
def TjM.PartsX (w : World) (e : Ending) (w' : World) : Prop := Below w.heap.size w w' ∧ ∃ g c a c2, e = .returned (.tuple #[.slice (some ⟨g, 0, none⟩) 2 c, .int .i64 0]) ∧ w'.cell? ⟨g, 0, none⟩ = some (.slice a 2 c2) ∧ IntsAt w' a [0, 2]
theorem parts_x (w : World) (ao : Option Addr) (h : EgsAt w ao TjM.ex) : Calls Try.prog 17 #[.int .i64 3, .slice ao 2 2] w (TjM.PartsX w) := by
  refine (parts_any 3 TjM.ex ao 2 w h (by decide)).mono ?_
  rintro e w' ⟨hb, ⟨h1, _⟩ | ⟨_, P, v, pv, rfl, hP, hpw, hT, hR⟩⟩
  · exact absurd (show GrM.check 3 TjM.ex = 0 from by decide) h1
  · have e := TjM.ex_parts hP hpw
    subst e
    obtain ⟨pa, pc, rfl, hat⟩ := TjM.partsAt hT hR
    obtain ⟨g, h1, h2, _, a, c, h4, h5⟩ := hat.row 0 (by simp)
    subst h1
    rw [h4] at h2
    exact ⟨hb, g, pc, a, c, rfl, h2, h5⟩
/-- What Reach tells, where all is right. -/
def GrM.ReachOk (m : Nat) (l : List EgM) (x : Nat) (w : World) (e : Ending) (w' : World) : Prop :=
  Below w.heap.size w w' ∧ ∃ (r : List Nat) (a : Option Addr) (c : Nat), e = .returned (.tuple #[.slice a r.length c, .int .i64 0]) ∧ IntsAt w' a (GrM.ints r) ∧ r.length ≤ m ∧ ∀ b, b < m → (((b : Int) ∈ GrM.ints r) ↔ GrM.Path m l x b)
theorem reach_ok (m : Nat) (l : List EgM) (x : Nat) (ao : Option Addr) (cap : Nat) (w : World) (h : EgsAt w ao l) (hn : l.length ≤ 9000000000000) (hc : GrM.check (m : Int) l = 0) (hx : x < m) :
    Calls Try.prog 18 #[.int .i64 (m : Int), .slice ao l.length cap, .int .i64 (x : Int)] w (GrM.ReachOk m l x w) := by
  refine (graphReach_any (m : Int) l (x : Int) ao cap w h hn).mono ?_
  rintro e w' ⟨hb, ⟨h1, _⟩ | ⟨_, h1, _⟩ | ⟨_, m', x', S, v, e1, e2, hx', hS, rfl, hown⟩⟩
  · exact absurd hc h1
  · omega
  · obtain rfl : m' = m := by omega
    obtain rfl : x' = x := by omega
    obtain ⟨a, c, rfl, _, hat, _, _⟩ := IntsAt.own hown
    refine ⟨hb, _, a, c, by rw [GrM.ints_len], hat, ?_, fun b hbm => ?_⟩
    · exact Nat.le_trans (List.length_filter_le _ _) (by simp)
    · rw [← hS b]
      unfold GrM.ints
      rw [List.mem_map]
      constructor
      · rintro ⟨y, hy, e⟩
        obtain rfl : y = b := by omega
        exact (List.mem_filter.1 hy).2
      · intro hb2
        exact ⟨b, List.mem_filter.2 ⟨List.mem_range.2 hbm, hb2⟩, rfl⟩

set_option maxRecDepth 20000 in
set_option maxHeartbeats 16000000 in
theorem graphParts_calls (n : Int) (L : List EgM) (ao : Option Addr) (cap : Nat) (w : World) (h : EgsAt w ao L) (hlen : L.length ≤ 8796093022207) :
    Calls Try.prog 5 #[.int .i64 n, .slice ao L.length cap] w fun e w' => e = .returned (.bool true) ∧ Below w.heap.size w w' := by
  obtain ⟨i0, hi0, hz0, hz1, hz2⟩ := info_parts Try.infoIntG
  have H := box h
  clear h
  go_enter Try.func5, Try.ntmps5
  go_wp2_with fail
  refine (parts_x _ (some ⟨w.heap.size, 0, none⟩) (Or.inr ⟨w.heap.size, 0, rfl, by simp, fun k hk => by
    rcases (show k = 0 ∨ k = 1 by simp [TjM.ex] at hk; omega) with rfl | rfl
    · exact ⟨(Blk.new w [.int .i64 2, .int .i64 0, .int .i64 0, .int .i64 2] 46).cell rfl, (Blk.new w [.int .i64 2, .int .i64 0, .int .i64 0, .int .i64 2] 46).cell rfl⟩
    · exact ⟨(Blk.new w [.int .i64 2, .int .i64 0, .int .i64 0, .int .i64 2] 46).cell rfl, (Blk.new w [.int .i64 2, .int .i64 0, .int .i64 0, .int .i64 2] 46).cell rfl⟩⟩)).mono ?_
  rintro e w1 ⟨hb1, pg, pc, pa, pc2, rfl, hc0, hat⟩
  have HB1 := box (((Below.refl _ _).alloc (Nat.le_refl _) _).trans (hb1.mono (by simp)))
  have HAt := box hat
  clear hat hb1
  go_wp2_with fail
  refine (equalInts_same [0, 2] pa (some ⟨w1.heap.size, 0, none⟩) pc2 2 _ (HAt.out.below ((Below.refl _ _).alloc (Nat.le_refl _) _) (Nat.le_refl _)) (Or.inr ⟨w1.heap.size, 0, rfl, by simp, fun k hk => by
    rw [Nat.zero_add]
    exact (Blk.new w1 (intVals [0, 2]) 3).cell (intVals_get hk)⟩) (by simp)).mono ?_
  rintro e w2 ⟨rfl, n2, rfl⟩
  have HB2 : Box (Below w.heap.size w ((w1.alloc (.cells #[.int .i64 0, .int .i64 2] 3)).drewN n2)) := ⟨(HB1.out.alloc HB1.out.size _).trans ⟨rfl, rfl, rfl, Nat.le_refl _, fun _ _ => rfl⟩⟩
  generalize (w1.alloc (.cells #[.int .i64 0, .int .i64 2] 3)).drewN n2 = W2 at *
  clear HAt HB1 hc0
  go_wp2_with fail
  refine (parts_any n L ao cap W2 (H.out.below HB2.out (Nat.le_refl _)) (by omega)).mono ?_
  rintro e W3 ⟨hb3, hc⟩
  have HB3 := box (below_tr HB2.out hb3)
  clear hb3
  rcases hc with ⟨hc0, rfl⟩ | ⟨hc0, P, v, pv, rfl, hP, _, hT, hR⟩
  · obtain ⟨c, HC⟩ : ∃ c, Box (GrM.check n L = c) := ⟨_, ⟨rfl⟩⟩
    rw [HC.out] at hc0 ⊢
    have g1 : (c == 0) = false := by simp [hc0]
    have g2 : (c != 0) = true := by simp [hc0]
    clear hc0
    go_wp2_with fail
    go_ret
    exact ⟨by simp, HB3.out⟩
  obtain ⟨m, rfl, hm6, hl2, _⟩ := GrM.check_ok hc0
  rw [Int.toNat_natCast] at hP
  obtain ⟨pa2, pcc, rfl, hpat⟩ := TjM.partsAt hT hR
  have HC := box hc0; have HP := box hP; have HPat := box hpat
  have hPl := hP.len
  clear hc0 hP hT hR hpat
  have hmk := run_make_tab (P := Try.prog) W3 31 3 i0 (.int .i64 0) Try.underlying31 hi0 hz0 hz1 rfl m (by rw [hz2]; omega) (by omega)
  obtain ⟨W4, HW4⟩ : ∃ x, Box (W3.alloc (.cells (Tab m (fun _ => (Value.int .i64 0))).toArray 3) = x) := ⟨_, ⟨rfl⟩⟩
  obtain ⟨T, HT⟩ : ∃ T, Box (W3.heap.size = T) := ⟨_, ⟨rfl⟩⟩
  have HS4 : Box (Below T W3 W4 ∧ ITab W4 T m (fun _ => 0) ∧ W4.heap.size = T + 1) := ⟨by
    rw [← HW4.out, ← HT.out]
    exact ⟨(Below.refl _ _).alloc (Nat.le_refl _) _, Blk.new _ _ _, by simp⟩⟩
  rw [HW4.out, HT.out] at hmk
  have hsT : w.heap.size ≤ T := by have := HB3.out.size; have := HT.out; omega
  obtain ⟨PL, HPL⟩ : ∃ x, Box (P.length = x) := ⟨_, ⟨rfl⟩⟩
  rw [HPL.out] at hPl ⊢
  clear HW4
  go_wp2_with fail
  go_loopw [10, 59] (fun t10 t59 wr => ∃ (i : Nat) (g : Nat → Int), i ≤ PL ∧ t59 = .int .i64 (i : Int) ∧ t10 = .int .i64 ((P.take i).flatten.length : Int) ∧ Box (Below T W3 wr ∧ ITab wr T m g ∧ TjM.Told P i 0 g)) (fun _ t59 _ => PL - (RowKit.intOf t59).toNat)
  case atStart => exact ⟨0, _, Nat.zero_le _, rfl, rfl, ⟨HS4.out.1, HS4.out.2.1, TjM.Told.start P _⟩⟩
  case round =>
    obtain ⟨i, g, hi, rfl, rfl, HR⟩ := hrel
    clear HS4 hmk
    by_cases hlt : i < PL
    · have hip : i < P.length := by have := HPL.out; omega
      obtain ⟨gp, hpa, hcell, hgl, a, c, hv, hat⟩ := HPat.out.row i hip
      subst hpa
      rw [hv] at hcell
      have hc1 : wr.cell? ⟨gp, i, none⟩ = some (.slice a P[i].length c) := (HR.out.1.cell (p := ⟨gp, i, none⟩) (by have := HT.out; show gp < T; omega)).trans hcell
      obtain ⟨QL, HQL⟩ : ∃ x, Box (P[i].length = x) := ⟨_, ⟨rfl⟩⟩
      obtain ⟨F, HF⟩ : ∃ x, Box ((P.take i).flatten.length = x) := ⟨_, ⟨rfl⟩⟩
      have HNF : Box ((P.take (i + 1)).flatten.length = F + QL) := ⟨by rw [TjM.flat_take P hip, HF.out, HQL.out]⟩
      have hFl : F + QL ≤ m := by
        rw [← HNF.out, ← HP.out.count]
        have e := congrArg (fun q : List (List Nat) => q.flatten.length) (List.take_append_drop (i + 1) P)
        simp only [List.flatten_append, List.length_append] at e
        omega
      have HAt := box hat
      rw [HQL.out] at hc1
      rw [HF.out]
      clear hcell hv hat hgl
      go_wp2_with fail
      go_loopw [10, 66] (fun t10 t66 wr => ∃ (j : Nat) (g : Nat → Int), j ≤ QL ∧ t66 = .int .i64 (j : Int) ∧ t10 = .int .i64 ((F + j : Nat) : Int) ∧ Box (Below T W3 wr ∧ ITab wr T m g ∧ TjM.Told P i j g)) (fun _ t66 _ => QL - (RowKit.intOf t66).toNat)
      case atStart => exact ⟨0, g, Nat.zero_le _, rfl, rfl, HR⟩
      case round =>
        obtain ⟨j, g', hj, rfl, rfl, HI⟩ := hrel
        clear hc1 HR
        by_cases hjt : j < QL
        · have hjq : j < P[i].length := by rw [HQL.out]; exact hjt
          obtain ⟨b, off, rfl, hb, hrow⟩ := (HAt.out.below HI.out.1 (by rw [HT.out]; exact Nat.le_refl _)).resolve_left (by intro h; have := congrArg List.length h; rw [GrM.ints_len, List.length_nil] at this; omega)
          have c0 := hrow j (by rw [GrM.ints_len]; exact hjq)
          have hkm : P[i][j] < m := (HP.out.mem _).1 (List.mem_flatten.2 ⟨_, List.getElem_mem hip, List.getElem_mem hjq⟩)
          have HPut := box (HI.out.2.2.put HP.out.nd hip hjq)
          rw [show (GrM.ints P[i])[j]'(by rw [GrM.ints_len]; exact hjq) = ((P[i][j] : Nat) : Int) by simp [GrM.ints]] at c0
          have HST := box (HI.out.2.1.set P[i][j] (i : Int))
          generalize P[i][j] = k at *
          have t0 := HI.out.2.1.cell hkm
          have z0 := Blk.frozen HI.out.2.1 k
          have d0 : decide ((k : Int) < 0) = false := by simp
          have d1 : decide (m ≤ k) = false := by simp; omega
          have d2 : decide (j < QL) = true := by simpa using hjt
          have hk2 : (k : Int) < (m : Int) := by omega
          clear hrow
          go_wp2_with fail
          go_roundw
          case rel => exact ⟨j + 1, _, by omega, by go_num, by go_num, ⟨HI.out.1.setCell (Nat.le_refl _) _, HST.out, HPut.out⟩⟩
          case measure => simp [RowKit.intOf]; omega
        · obtain rfl : j = QL := by omega
          have HNx := box (HI.out.2.2.next hip HQL.out.symm)
          have d2 : decide (j < j) = false := by simp
          go_wp2_with fail
          go_roundw
          case rel => exact ⟨i + 1, _, by omega, by go_num, by rw [HNF.out], ⟨HI.out.1, HI.out.2.1, HNx.out⟩⟩
          case measure => simp [RowKit.intOf]; omega
    · obtain rfl : i = PL := by omega
      have HTo : Box (∀ a b : Nat, a < m → b < m → ((a = b ∨ (GrM.Path m L a b ∧ GrM.Path m L b a)) ↔ g a = g b)) := ⟨fun a b ha hb => by
        rw [← TjM.R_iff_mutual]
        exact TjM.Told.all (by rw [HPL.out]; exact HR.out.2.2) HP.out ha hb⟩
      have HFm : Box ((P.take i).flatten.length = m) := ⟨by rw [← HPL.out, List.take_length]; exact HP.out.count⟩
      have HS5 : Box (Below T W3 wr ∧ ITab wr T m g) := ⟨HR.out.1, HR.out.2.1⟩
      rw [HFm.out]
      clear HR HFm
      obtain ⟨N, HN⟩ : ∃ N, Box (L.length = N) := ⟨_, ⟨rfl⟩⟩
      rw [HN.out] at hl2 hlen ⊢
      have HRc := box (fun (wx : World) (x : Nat) (hx : x < m) (hb : Below w.heap.size w wx) => reach_ok m L x ao cap wx (H.out.below hb (Nat.le_refl _)) (by rw [HN.out]; omega) HC.out hx)
      rw [HN.out] at HRc
      have d9 : decide (i < i) = false := by simp
      have hTw : T < wr.heap.size := Blk.lt HS5.out.2
      go_wp2_with fail
      clear d9
      go_loopw [86] (fun t86 wx => ∃ a : Nat, a ≤ m ∧ t86 = .int .i64 (a : Int) ∧ Box (Below T W3 wx ∧ ITab wx T m g)) (fun t86 _ => m - (RowKit.intOf t86).toNat)
      case atStart => exact ⟨0, Nat.zero_le _, rfl, HS5⟩
      case round =>
        obtain ⟨a, ha, rfl, HA⟩ := hrel
        clear HS5 hTw
        by_cases hat : a < m
        · have d0 : decide (a < m) = true := by simpa using hat
          go_wp2_with fail
          refine (HRc.out _ a hat (HB3.out.trans (HA.out.1.mono hsT))).mono ?_
          rintro e W6 ⟨hb6, ra, aa, ca, rfl, hata, hla, hma⟩
          have HS6 : Box (Below T W3 W6 ∧ ITab W6 T m g ∧ IntsAt W6 aa (GrM.ints ra)) := ⟨HA.out.1.trans (hb6.mono (Nat.le_of_lt (Blk.lt HA.out.2))), Blk.after HA.out.2 hb6, hata⟩
          have HMa := box hma
          obtain ⟨RL, HRL⟩ : ∃ x, Box (ra.length = x) := ⟨_, ⟨rfl⟩⟩
          rw [HRL.out] at hla ⊢
          clear hb6 hata hma HA
          go_wp2_with fail
          clear d0
          go_loopw [97] (fun t97 wx => ∃ b : Nat, b ≤ m ∧ t97 = .int .i64 (b : Int) ∧ Box (Below T W3 wx ∧ ITab wx T m g ∧ IntsAt wx aa (GrM.ints ra))) (fun t97 _ => m - (RowKit.intOf t97).toNat)
          case atStart => exact ⟨0, Nat.zero_le _, rfl, HS6⟩
          case round =>
            obtain ⟨b, hb, rfl, HQ⟩ := hrel
            clear HS6
            by_cases hbt : b < m
            · have d0 : decide (b < m) = true := by simpa using hbt
              go_wp2_with fail
              refine (HRc.out _ b hbt (HB3.out.trans (HQ.out.1.mono hsT))).mono ?_
              rintro e W7 ⟨hb7, rb, ab, cb, rfl, hatb, hlb, hmb⟩
              have HS7 : Box (Below T W3 W7 ∧ ITab W7 T m g ∧ IntsAt W7 aa (GrM.ints ra)) := ⟨HQ.out.1.trans (hb7.mono (Nat.le_of_lt (Blk.lt HQ.out.2.1))), Blk.after HQ.out.2.1 hb7, HQ.out.2.2.below hb7 (Nat.le_refl _)⟩
              have HC1 := box (contains_ints (GrM.ints ra) (b : Int) aa ca W7 HS7.out.2.2 (by rw [GrM.ints_len, HRL.out]; omega))
              have HC2 := box (contains_ints (GrM.ints rb) (a : Int) ab cb W7 hatb (by rw [GrM.ints_len]; omega))
              rw [GrM.ints_len, HRL.out] at HC1
              rw [GrM.ints_len] at HC2
              have HTab := box (HTo.out a b hat hbt)
              rw [← HMa.out b hbt, ← hmb a hat] at HTab
              have t0 := HS7.out.2.1.cell hat
              have t1 := HS7.out.2.1.cell hbt
              obtain ⟨SL, HSL⟩ : ∃ x, Box (rb.length = x) := ⟨_, ⟨rfl⟩⟩
              rw [HSL.out] at hlb HC2 ⊢
              obtain ⟨ga, HGa⟩ : ∃ x, Box (g a = x) := ⟨_, ⟨rfl⟩⟩
              obtain ⟨gb, HGb⟩ : ∃ x, Box (g b = x) := ⟨_, ⟨rfl⟩⟩
              rw [HGa.out, HGb.out] at HTab
              rw [HGa.out] at t0
              rw [HGb.out] at t1
              have HQN : Box (∀ n, Below T W3 (W7.drewN n) ∧ ITab (W7.drewN n) T m g ∧ IntsAt (W7.drewN n) aa (GrM.ints ra)) := ⟨fun n => by
                have hd : Below W7.heap.size W7 (W7.drewN n) := ⟨rfl, rfl, rfl, Nat.le_refl _, fun _ _ => rfl⟩
                exact ⟨HS7.out.1.trans (hd.mono (Nat.le_of_lt (Blk.lt HS7.out.2.1))), Blk.after HS7.out.2.1 hd, HS7.out.2.2.below hd (Nat.le_refl _)⟩⟩
              clear hb7 hatb hmb HQ HRc
              have hcase : (∃ x : Bool, (ga == gb) = x ∧ ((a = b ∧ x = true) ∨ (a ≠ b ∧ decide ((b : Int) ∈ GrM.ints ra) = false ∧ x = false) ∨ (a ≠ b ∧ decide ((b : Int) ∈ GrM.ints ra) = true ∧ decide ((a : Int) ∈ GrM.ints rb) = x))) := by
                refine ⟨_, rfl, ?_⟩
                have e : (ga == gb) = decide (ga = gb) := rfl
                rw [e]
                by_cases hab : a = b
                · exact Or.inl ⟨hab, decide_eq_true (HTab.out.1 (Or.inl hab))⟩
                · by_cases h1 : (b : Int) ∈ GrM.ints ra
                  · refine Or.inr (Or.inr ⟨hab, decide_eq_true h1, decide_eq_decide.2 ⟨fun h2 => HTab.out.1 (Or.inr ⟨h1, h2⟩), fun h2 => ?_⟩⟩)
                    exact ((HTab.out.2 h2).resolve_left hab).2
                  · refine Or.inr (Or.inl ⟨hab, decide_eq_false h1, decide_eq_false fun h2 => ?_⟩)
                    exact h1 ((HTab.out.2 h2).resolve_left hab).1
              obtain ⟨x, hx, hc3⟩ := hcase
              generalize decide ((b : Int) ∈ GrM.ints ra) = u at *
              generalize decide ((a : Int) ∈ GrM.ints rb) = v at *
              rcases hc3 with ⟨hab, hx2⟩ | ⟨hab, hu, hx2⟩ | ⟨hab, hu, hv2⟩
              · subst hx2
                have q0 : ((a : Int) == (b : Int)) = true := by simp; omega
                clear hab HC1 HC2
                go_wp2_with fail
                go_quiet (fail)
                go_wp2_with fail
                go_roundw
                case rel => exact ⟨b + 1, by omega, by go_num, ⟨HQN.out nq⟩⟩
                case measure => simp [RowKit.intOf]; omega
              · subst hx2 hu
                have q0 : ((a : Int) == (b : Int)) = false := by simp; omega
                clear hab HC2
                go_wp2_with fail
                refine HC1.out.mono ?_
                rintro e w8 ⟨rfl, rfl⟩
                go_wp2_with fail
                go_quiet (fail)
                go_wp2_with fail
                go_roundw
                case rel => exact ⟨b + 1, by omega, by go_num, ⟨HQN.out nq⟩⟩
                case measure => simp [RowKit.intOf]; omega
              · subst hu hv2
                have q0 : ((a : Int) == (b : Int)) = false := by simp; omega
                clear hab
                go_wp2_with fail
                refine HC1.out.mono ?_
                rintro e w8 ⟨rfl, rfl⟩
                go_wp2_with fail
                refine HC2.out.mono ?_
                rintro e w8 ⟨rfl, rfl⟩
                clear HC1 HC2 HTab
                cases v
                all_goals
                  go_wp2_with fail
                  go_quiet (fail)
                  go_wp2_with fail
                  go_roundw
                  case rel => exact ⟨b + 1, by omega, by go_num, ⟨HQN.out nq⟩⟩
                  case measure => simp [RowKit.intOf]; omega
            · obtain rfl : b = m := by omega
              have d0 : decide (b < b) = false := by simp
              go_wp2_with fail
              go_roundw
              case rel => exact ⟨a + 1, by omega, by go_num, ⟨HQ.out.1, HQ.out.2.1⟩⟩
              case measure => simp [RowKit.intOf]; omega
        · obtain rfl : a = m := by omega
          have d0 : decide (a < a) = false := by simp
          go_wp2_with fail
          go_ret
          exact ⟨by simp, HB3.out.trans (HA.out.1.mono hsT)⟩

namespace lawGraphParts
open Go.ChangeShapes Go.WideShapes Go.ChangeAt Go.RowKit Go.ChangeMaps

set_option maxRecDepth 100000 in
theorem lifted (os : Os) (started : os.Started) (H : Type) (enc : TypeId × Value → H) :
    ReturnsInHanded {} Try.checked os 5 .any (Rows.graphPartsSpec.pre6 enc Try.prog Try.f5 [] false) (Rows.graphPartsSpec.post enc Try.prog Try.f5 false true false false) := by
  refine LawKit.law_lifted started (by kernel_rfl) Try.func5 rfl
    (fun ds h => by
      match ds, h with
      | [_, _], _ => rfl)
    rfl Try.underlying4 (by intro t ht; exact of_decide_eq_true (p := Try.prog.readableRec t = true ∧ t < Try.prog.types.size) (by revert t ht; decide +kernel))
    (ChangeSpec.witness6 (enc := enc) (C := Try.checked) false ⟨#[], #[.int .i64 0, .slice none 0 0], []⟩ 8 (by kernel_rfl) (by kernel_rfl) (by kernel_rfl) (by kernel_rfl)) ?_
  intro W base args ds ps hval hA hsz hlt hfz
  have hA' := hA
  rw [Try.params5] at hA hval
  obtain ⟨v0, vs0, d0, ds0, p0, q0, hargs, rfl, rfl, h0, r0⟩ := trodAll_cons hA
  obtain ⟨v1, vs1, d1, ds1, p1, q1, rfl, rfl, rfl, h1, r1⟩ := trodAll_cons r0
  obtain ⟨rfl, rfl, rfl⟩ := trodAll_nil r1
  obtain rfl : args = #[v0, v1] := by cases args; simp_all
  go_open 0 n
  obtain ⟨ao, cap, L, rfl, hat, _, _, hln⟩ := open_egs (hval 1 _ _ rfl rfl) h1 (Open.weights_bound hsz (j := 1) (by rw [Try.params5]; rfl) rfl)
  refine (graphParts_calls n L ao cap W hat (by omega)).mono ?_
  rintro e W' ⟨rfl, hb⟩
  exact ⟨rfl, hb⟩

theorem proved : Rows.GraphPartsSaid :=
  OpenClaim.holds_of_wide 5 Try.f5 rfl rfl rfl rfl rfl rfl rfl ⟨rfl, rfl, rfl, rfl, rfl⟩ rfl rfl rfl rfl rfl (by kernel_rfl) Try.func5 (by kernel_rfl)
    (of_decide_eq_true (by kernel_rfl)) (by unfold Func.isWrapper; first | (rw [if_pos (by decide +kernel)]; kernel_rfl) | (rw [if_neg (by decide +kernel)]; exact ⟨rfl, rfl⟩))
    (fun os started H enc _ => lifted os started H enc)
end lawGraphParts
end Go.Proofs.Ytgkclgmekbgjmaa
