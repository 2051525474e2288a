/- SnapSees is proved for every input. -/
import Derived.Test.YtlmibgjflgkalaaLawKit
import Derived.Test.YtlmibgjflgkalaaSnapP
import Derived.Test.YtlmibgjflgkalaaSeesM
import Derived.Test.YtlmibgjflgkalaaSlOps2
import Derived.Test.YtlmibgjflgkalaaOpsOpen
import Derived.Test.YtlmibgjflgkalaaOp
import Derived.Deep.RegionHeld3
namespace Go.Proofs.Ytlmibgjflgkalaa
open Go.RowKit Go.Lib

/-- Decisions stand where a slice begins. -/
def DidAt (w : World) (ao : Option Addr) (l : List DidM) : Prop :=
  l = [] ∨ ∃ b, ao = some ⟨b, 0, none⟩ ∧ b < w.heap.size ∧ ∀ k (h : k < l.length), w.cell? ⟨b, k * 2, none⟩ = some (.bool l[k].ok) ∧ w.cell? ⟨b, k * 2 + 1, none⟩ = some (.int .i64 l[k].from_)
theorem DidAt.below {B : Nat} {w w' : World} {ao : Option Addr} {l : List DidM} (h : DidAt w ao l) (hb : Below B w w') (hB : w.heap.size ≤ B) : DidAt w' ao l := by
  rcases h with h | ⟨b, h1, h2, h3⟩
  · exact Or.inl h
  · exact Or.inr ⟨b, h1, Nat.lt_of_lt_of_le h2 hb.size, fun k hk => ⟨(hb.cell (p := ⟨b, k * 2, none⟩) (Nat.lt_of_lt_of_le h2 hB)).trans (h3 k hk).1, (hb.cell (p := ⟨b, k * 2 + 1, none⟩) (Nat.lt_of_lt_of_le h2 hB)).trans (h3 k hk).2⟩⟩
theorem didVals_at (l : List DidM) : ∀ (k : Nat) (h : k < l.length), (didVals l)[k * 2]? = some (.bool l[k].ok) ∧ (didVals l)[k * 2 + 1]? = some (.int .i64 l[k].from_) := by
  induction l with
  | nil => intro k h; simp at h
  | cons v r ih =>
    intro k h
    cases k with
    | zero => exact ⟨rfl, rfl⟩
    | succ k =>
      have h2 := ih k (by simpa using h)
      have e1 : (k + 1) * 2 = k * 2 + 1 + 1 := by omega
      rw [e1]
      simp only [didVals, List.flatMap_cons, List.cons_append, List.nil_append, List.getElem?_cons_succ, List.getElem_cons_succ]
      exact h2
theorem DidAt.own {w : World} {base n : Nat} {v : Value} {l : List DidM} (h : w.ownsRow base 60 2 v n (didVals l)) : ∃ ao cap, v = .slice ao l.length cap ∧ DidAt w ao l := by
  have hl : n = l.length := by have := h.1; rw [didVals_len] at this; omega
  rcases h.2 with ⟨h1, h2⟩ | ⟨g, cap, cur, h1, h2, h3, h4, _⟩
  · have : l = [] := List.eq_nil_of_length_eq_zero (by omega)
    subst this
    exact ⟨none, 0, h1, Or.inl rfl⟩
  · subst hl
    refine ⟨_, cap, h1, Or.inr ⟨g, rfl, (Array.getElem?_eq_some_iff.1 h3).1, fun k hk => ?_⟩⟩
    have ho := h
    rw [h1] at ho
    obtain ⟨c0, c1⟩ := didVals_at l k hk
    rw [ho.cellAt (k * 2) (by omega), ho.cellAt (k * 2 + 1) (by omega)]
    exact ⟨c0, c1⟩
/-- What Play leaves, opened. -/
def SnapM.Left (l : List OpM) (w : World) (e : Ending) (w' : World) : Prop :=
  Below w.heap.size w w' ∧ ∃ (D : List DidM) (ao : Option Addr) (c1 : Nat) (c : Int), c = RunM.check l ∧ e = .returned (.tuple #[.slice ao D.length c1, .int .i64 c]) ∧ DidAt w' ao D ∧ (c ≠ 0 → D = []) ∧ (c = 0 → D = SnapM.play l)
theorem snap_left (l : List OpM) (ao : Option Addr) (cap : Nat) (w : World) (h : OpsAt w ao l) (hf : RunM.Fits l) :
    Calls Try.prog 27 #[.slice ao l.length cap] w (SnapM.Left l w) := by
  refine (snap_any l ao cap w h hf).mono ?_
  rintro e w' ⟨hb, ⟨hc, rfl⟩ | ⟨hc, v, rfl, hr⟩⟩
  · exact ⟨hb, [], none, 0, _, rfl, rfl, Or.inl rfl, fun _ => rfl, fun h => absurd h hc⟩
  · obtain ⟨ao, c1, rfl, h2⟩ := DidAt.own hr
    exact ⟨hb, _, ao, c1, 0, hc.symm, rfl, h2, fun h => absurd rfl h, fun _ => rfl⟩
def SnapM.four : List OpM := [⟨0, 2, 1⟩, ⟨1, 1, 1⟩, ⟨0, 3, 0⟩, ⟨1, 1, 1⟩]
theorem snap_four (b cap : Nat) (w : World) (h : Blk w b 42 [.int .i64 0, .int .i64 2, .int .i64 1, .int .i64 1, .int .i64 1, .int .i64 1, .int .i64 0, .int .i64 3, .int .i64 0, .int .i64 1, .int .i64 1, .int .i64 1]) :
    Calls Try.prog 27 #[.slice (some ⟨b, 0, none⟩) 4 cap] w fun e w' => Below w.heap.size w w' ∧ ∃ g c1, e = .returned (.tuple #[.slice (some ⟨g, 0, none⟩) 4 c1, .int .i64 0]) ∧ g < w'.heap.size ∧ w'.cell? ⟨g, 3, none⟩ = some (.int .i64 (-1)) ∧ w'.cell? ⟨g, 7, none⟩ = some (.int .i64 (-1)) := by
  refine (snap_left SnapM.four (some ⟨b, 0, none⟩) cap w (Or.inr ⟨b, 0, rfl, h.lt, ?_⟩) ⟨by decide, by decide⟩).mono ?_
  · intro k hk
    match k, hk with
    | 0, _ => exact ⟨h.cell rfl, h.cell rfl, h.cell rfl⟩
    | 1, _ => exact ⟨h.cell rfl, h.cell rfl, h.cell rfl⟩
    | 2, _ => exact ⟨h.cell rfl, h.cell rfl, h.cell rfl⟩
    | 3, _ => exact ⟨h.cell rfl, h.cell rfl, h.cell rfl⟩
  · rintro e w' ⟨hb, D, ao, c1, c, hc, rfl, h1, _, h3⟩
    have : c = 0 := hc.trans (by decide)
    subst this
    have e4 : SnapM.play SnapM.four = [⟨true, -1⟩, ⟨true, -1⟩, ⟨true, -1⟩, ⟨true, -1⟩] := by decide
    obtain rfl : D = [⟨true, -1⟩, ⟨true, -1⟩, ⟨true, -1⟩, ⟨true, -1⟩] := (h3 rfl).trans e4
    obtain ⟨g, rfl, hg, hrow⟩ := h1.resolve_left (by simp)
    exact ⟨hb, g, c1, rfl, hg, (hrow 1 (by decide)).2, (hrow 3 (by decide)).2⟩

set_option maxRecDepth 20000 in
set_option maxHeartbeats 8000000 in
theorem snapSees_calls (l : List OpM) (ao : Option Addr) (cap : Nat) (w : World) (h : OpsAt w ao l) (hf : RunM.Fits l) (hcap : l.length ≤ cap) :
    Calls Try.prog 7 #[.slice ao l.length cap] w fun e w' => e = .returned (.bool true) ∧ Below w.heap.size w w' := by
  have H := box h; have Hf := box hf
  have hfl := hf.1
  clear h hf
  go_enter Try.func7, Try.ntmps7
  go_wp2_with fail
  refine (op_any _ _ _ _).mono ?_
  rintro e w1 ⟨rfl, hb1⟩
  have HB1 := box hb1; clear hb1
  go_wp2_with fail
  refine (op_any _ _ _ _).mono ?_
  rintro e w2 ⟨rfl, hb2⟩
  have HB2 := box (below_tr HB1.out hb2); clear hb2
  go_wp2_with fail
  refine (op_any _ _ _ _).mono ?_
  rintro e w3 ⟨rfl, hb3⟩
  have HB3 := box (below_tr HB2.out hb3); clear hb3
  go_wp2_with fail
  refine (op_any _ _ _ _).mono ?_
  rintro e w4 ⟨rfl, hb4⟩
  have HB4 := box (below_tr HB3.out hb4); clear hb4 HB1 HB2 HB3
  go_wp2_with fail
  refine (snap_four w4.heap.size 4 _ (Blk.new w4 [.int .i64 0, .int .i64 2, .int .i64 1, .int .i64 1, .int .i64 1, .int .i64 1, .int .i64 0, .int .i64 3, .int .i64 0, .int .i64 1, .int .i64 1, .int .i64 1] _)).mono ?_
  rintro e w5 ⟨hb5, g, c1, rfl, hg, hd1, hd3⟩
  have HB5 := box (below_tr (HB4.out.alloc HB4.out.size _) hb5); clear hb5
  go_wp2_with fail
  refine (snap_left l ao cap _ (H.out.below HB5.out (Nat.le_refl _)) Hf.out).mono ?_
  rintro e w6 ⟨hb6, D, dao, c1, c, hc, rfl, hat, hn0, h0D⟩
  have HB6 := box (below_tr HB5.out hb6)
  have HC := box hc; have HAT := box hat; have HN := box hn0; have HD := box h0D
  have hs6 := HB6.out.size
  clear hb6 hc hat hn0 h0D hd1 hd3
  by_cases h0 : c = 0
  case neg =>
    have g1 : (c == 0) = false := by simp [h0]
    have g2 : (c != 0) = true := by simp [h0]
    obtain rfl := HN.out h0
    clear h0
    go_wp2_with fail
    go_ret
    exact ⟨by simp, HB6.out⟩
  subst h0
  have HOK := box (RunM.check_ok HC.out.symm)
  obtain rfl := HD.out rfl
  have hl200 := HOK.out.1
  clear HN HD
  have hDl : (SnapM.play l).length = l.length := SnapM.play_len l
  rw [hDl]
  have HDl := box hDl
  clear hDl
  go_wp2_with fail
  go_loopw [56] (fun t56 wr => ∃ i : Nat, i ≤ l.length ∧ t56 = .int .i64 (i : Int) ∧ Box (Below w6.heap.size w6 wr)) (fun t56 _ => l.length - (intOf t56).toNat)
  case atStart => exact ⟨0, Nat.zero_le _, rfl, ⟨Below.refl _ _⟩⟩
  case round =>
    obtain ⟨i, hi, rfl, Hb⟩ := hrel
    have HBw := box (below_tr HB6.out Hb.out)
    by_cases hlt : i < l.length
    case neg =>
      go_wp2_with fail
      go_ret
      exact ⟨by simp, HBw.out⟩
    obtain ⟨b, off, rfl, hb, hrow⟩ := ((H.out.below HBw.out (Nat.le_refl _)).resolve_left (by intro h; rw [h] at hlt; simp at hlt))
    obtain ⟨hc0, hc1, hc2⟩ := hrow i hlt
    obtain ⟨db, rfl, hdb, hdrow⟩ := ((HAT.out.below Hb.out (Nat.le_refl _)).resolve_left (by intro h; have := HDl.out; rw [h] at this; simp at this; omega))
    have hbs := Hb.out.size
    by_cases hk : l[i].kind = 1
    case neg =>
      have g1 : (l[i].kind == 1) = false := by simp [hk]
      have g2 : (l[i].kind != 1) = true := by simp [hk]
      clear hrow hdrow
      generalize l[i] = o at *
      clear hk
      go_wp2_with fail
      go_roundw
      case rel => exact ⟨i + 1, hlt, by go_num, ⟨Hb.out.alloc hbs _⟩⟩
      case measure => simp [intOf]; omega
    have HSees := box (SnapM.sees HOK.out.2.1 HOK.out.2.2 hlt hk)
    have hHdrow := hdrow
    have Hdrow : Box (∀ k (hk : k < l.length), wr.cell? ⟨db, k * 2, none⟩ = some (.bool (SnapM.tell l k hk).ok) ∧ wr.cell? ⟨db, k * 2 + 1, none⟩ = some (.int .i64 (SnapM.tell l k hk).from_)) := ⟨fun k hk => by
      have := hdrow k (by rw [HDl.out]; exact hk)
      rwa [SnapM.play_at l k hk] at this⟩
    have Hrow := box hrow
    have hd1 := (Hdrow.out i hlt).2
    have g1 : (l[i].kind == 1) = true := by simp [hk]
    have g2 : (l[i].kind != 1) = false := by simp [hk]
    clear hrow hdrow hHdrow hk
    generalize hfr : (SnapM.tell l i hlt).from_ = fr at *
    have Hfr := box hfr
    clear hfr
    have HTake : Box (OpsAt wr (some ⟨b, off, none⟩) (l.take i) ∧ (l.take i).length = i) := ⟨Or.inr ⟨b, off, rfl, hb, fun k hk => by
      rw [List.length_take] at hk
      rw [List.getElem_take]
      exact Hrow.out k (by omega)⟩, by rw [List.length_take]; omega⟩
    generalize hoo : l[i] = o at *
    have Hoo := box hoo
    clear hoo
    go_upto_region 12 with (fail)
    refine name_world (fun W => Below wr.heap.size wr W ∧ Blk W wr.heap.size 42 [.int .i64 o.tx, .int .i64 o.kind, .int .i64 o.item]) ⟨(Below.refl _ _).alloc (Nat.le_refl _) _, Blk.new _ _ _⟩ ?_
    rintro W ⟨hbW, hkW⟩
    have HW := box hbW; have HK := box hkW
    have hsW := hbW.size
    have hlB := hkW.lt
    have x0 := hkW.cell (i := 0) rfl
    have x2 := hkW.cell (i := 2) rfl
    clear hbW hkW hc0 hc1 hc2 hd1
    obtain ⟨Bx, HBx⟩ : ∃ Bx, Box (wr.heap.size = Bx) := ⟨_, ⟨rfl⟩⟩
    rw [HBx.out] at HK x0 x2 hlB ⊢
    have hic : (i : Int) ≤ (cap : Int) := by omega
    have hi0 : (0 : Int) ≤ (i : Int) := by omega
    obtain ⟨own, HOwn⟩ : ∃ own, Box (decide ((⟨o.tx, 2, o.item⟩ : OpM) ∈ l.take i) = own) := ⟨_, ⟨rfl⟩⟩
    go_cut [10] (fun s10 wx => s10 = .bool own ∧ Below wr.heap.size wr wx ∧ Blk wx Bx 42 [.int .i64 o.tx, .int .i64 o.kind, .int .i64 o.item])
    case first =>
      go_region_held3 (fun w' => w'.cell? ⟨Bx, 0, none⟩ = some (.int .i64 o.tx) ∧ w'.cell? ⟨Bx, 2, none⟩ = some (.int .i64 o.item)) (first | exact ⟨x0, x2⟩ | assumption) (first
        | (go_at_call 19; refine (op_any _ _ _ _).mono ?_; rintro e w7 ⟨rfl, hb7⟩; have hb7' := below_tr (Below.refl _ W).drew hb7; have HK7 := box (HK.out.after hb7'); have HW7 := box (HW.out.trans (hb7'.mono hsW)); have HT7 := box (HTake.out.1.below HW7.out (Nat.le_refl _)); have hq : w7.cell? ⟨Bx, 0, none⟩ = some (.int .i64 o.tx) ∧ w7.cell? ⟨Bx, 2, none⟩ = some (.int .i64 o.item) := ⟨HK7.out.cell rfl, HK7.out.cell rfl⟩; clear hb7 hb7')
        | (go_at_call 28; have hcc := contains_ops (l.take i) ⟨o.tx, 2, o.item⟩ (some ⟨b, off, none⟩) cap _ HT7.out (by rw [HTake.out.2]; omega); rw [HTake.out.2, HOwn.out] at hcc; refine hcc.mono ?_; clear hcc; rintro e w8 ⟨rfl, hb8⟩; have HK8 := box (HK7.out.after hb8); have HW8 := box (HW7.out.trans (hb8.mono HW7.out.size)); have hq8 : w8.cell? ⟨Bx, 0, none⟩ = some (.int .i64 o.tx) ∧ w8.cell? ⟨Bx, 2, none⟩ = some (.int .i64 o.item) := ⟨HK8.out.cell rfl, HK8.out.cell rfl⟩; clear hb8))
      go_step
      go_step
      go_meet
      exact ⟨rfl, HW8.out, HK8.out⟩
    case rest =>
    obtain ⟨rfl, hbc, hkc⟩ := hcut
    have HW2 := box hbc; have HK2 := box hkc
    clear hbc hkc x0 x2 HW HK hsW hlB
    go_wp2_with fail
    go_loopw [11, 82] (fun t11 t82 w2 => ∃ (k : Nat) (cm : Bool), k ≤ i ∧ t82 = .int .i64 (k : Int) ∧ t11 = .bool cm ∧ Box (∀ j (h : j < l.length), j < k → l[j].kind = 3 → l[j].tx = fr → (SnapM.tell l j h).ok = true → cm = true) ∧ Box (Below wr.heap.size wr w2) ∧ Box (Blk w2 Bx 42 [.int .i64 o.tx, .int .i64 o.kind, .int .i64 o.item])) (fun _ t82 _ => i - (intOf t82).toNat)
    case atStart => exact ⟨0, false, Nat.zero_le _, rfl, rfl, ⟨fun j _ h => by omega⟩, HW2, HK2⟩
    case round =>
      obtain ⟨k, cm, hk, rfl, rfl, Hcm, Hb2, HKx⟩ := hrel
      have x0 := HKx.out.cell (i := 0) rfl
      have hbs2 := Hb2.out.size
      have hlx := HKx.out.lt
      by_cases hlt2 : k < i
      case neg =>
        have hki : k = i := by omega
        subst hki
        have HE := box (Hb.out.trans (Hb2.out.mono hbs))
        by_cases hft : fr = o.tx
        · have ho : own = true := by rw [← HOwn.out]; exact decide_eq_true (HSees.out.2.1 hft)
          subst ho
          have q1 : (fr == o.tx) = true := by simp [hft]
          have q2 : (fr != o.tx) = false := by simp [hft]
          clear hft
          go_wp2_with fail
          go_roundw
          case rel => exact ⟨k + 1, hlt, by go_num, HE⟩
          case measure => simp [intOf]; omega
        · have q1 : (fr == o.tx) = false := by simp [hft]
          have q2 : (fr != o.tx) = true := by simp [hft]
          by_cases hm1 : fr = -1
          · have q3 : (fr != -1) = false := by simp [hm1]
            clear hft hm1
            go_wp2_with fail
            go_roundw
            case rel => exact ⟨k + 1, hlt, by go_num, HE⟩
            case measure => simp [intOf]; omega
          · have q3 : (fr != -1) = true := by simp [hm1]
            have hcm : cm = true := by
              obtain ⟨j, hj, h1, h2, h3, h4⟩ := HSees.out.2.2 hft hm1
              exact Hcm.out j hj h1 h2 h3 h4
            subst hcm
            clear hft hm1
            go_wp2_with fail
            go_roundw
            case rel => exact ⟨k + 1, hlt, by go_num, HE⟩
            case measure => simp [intOf]; omega
      have hkl : k < l.length := by omega
      have hk2 : (k : Int) < (i : Int) := by omega
      have c0 : wr.cell? ⟨b, off + k * 3, none⟩ = some (.int .i64 l[k].tx) := (Hb2.out.cell (p := ⟨b, off + k * 3, none⟩) hb).trans (Hrow.out k hkl).1
      have c1 : wr.cell? ⟨b, off + k * 3 + 1, none⟩ = some (.int .i64 l[k].kind) := (Hb2.out.cell (p := ⟨b, off + k * 3 + 1, none⟩) hb).trans (Hrow.out k hkl).2.1
      have c2 : wr.cell? ⟨b, off + k * 3 + 2, none⟩ = some (.int .i64 l[k].item) := (Hb2.out.cell (p := ⟨b, off + k * 3 + 2, none⟩) hb).trans (Hrow.out k hkl).2.2
      have d0 : wr.cell? ⟨db, k * 2, none⟩ = some (.bool (SnapM.tell l k hkl).ok) := (Hb2.out.cell (p := ⟨db, k * 2, none⟩) hdb).trans (Hdrow.out k hkl).1
      have d1 : wr.cell? ⟨db, k * 2 + 1, none⟩ = some (.int .i64 (SnapM.tell l k hkl).from_) := (Hb2.out.cell (p := ⟨db, k * 2 + 1, none⟩) hdb).trans (Hdrow.out k hkl).2
      have HS1 : Box (l[k] = o → own = false → (SnapM.tell l k hkl).from_ = fr) := ⟨fun h1 h2 => HSees.out.1 k hlt2 h1 (by rw [← HOwn.out] at h2; exact of_decide_eq_false h2)⟩
      have HN : Box (∀ cm' : Bool, (cm = true → cm' = true) → (l[k].kind = 3 → l[k].tx = fr → (SnapM.tell l k hkl).ok = true → cm' = true) → ∀ j (h : j < l.length), j < k + 1 → l[j].kind = 3 → l[j].tx = fr → (SnapM.tell l j h).ok = true → cm' = true) := ⟨fun cm' h1 h2 j hj hjk => by
        by_cases e : j = k
        · subst e; exact h2
        · exact fun a1 a2 a3 => h1 (Hcm.out j hj (by omega) a1 a2 a3)⟩
      generalize (SnapM.tell l k hkl).ok = ok at *
      generalize (SnapM.tell l k hkl).from_ = fk at *
      generalize l[k] = p at *
      go_upto_region 17 with (fail)
      have hdbw : db < wr.heap.size := by omega
      refine name_world (fun W => Below wr.heap.size wr W ∧ Blk W wr.heap.size 42 [.int .i64 p.tx, .int .i64 p.kind, .int .i64 p.item]) ⟨(Below.refl _ _).alloc (Nat.le_refl _) _, Blk.new _ _ _⟩ ?_
      rintro W ⟨hbW, hpW⟩
      have HbW := box (Hb2.out.trans (hbW.mono hbs2))
      have HxW := box (HKx.out.after hbW)
      have y0 := hpW.cell (i := 0) rfl
      have y1 := hpW.cell (i := 1) rfl
      have y2 := hpW.cell (i := 2) rfl
      have z0 := HxW.out.cell (i := 0) rfl
      have z1 := HxW.out.cell (i := 1) rfl
      have z2 := HxW.out.cell (i := 2) rfl
      have d0 : W.cell? ⟨db, k * 2, none⟩ = some (.bool ok) := (hbW.cell (p := ⟨db, k * 2, none⟩) hdbw).trans d0
      have d1 : W.cell? ⟨db, k * 2 + 1, none⟩ = some (.int .i64 fk) := (hbW.cell (p := ⟨db, k * 2 + 1, none⟩) hdbw).trans d1
      clear hbW hpW x0 c0 c1 c2
      generalize wr.heap.size = P at *
      go_cut [11] (fun s11 wx => ∃ cm' : Bool, s11 = .bool cm' ∧ W = wx ∧ Box ((cm = true → cm' = true) ∧ (p.kind = 3 → p.tx = fr → ok = true → cm' = true)))
      case first =>
        cases cm with
        | true =>
          go_wp2_with fail
          go_meet
          exact ⟨true, rfl, rfl, ⟨fun _ => rfl, fun _ _ _ => rfl⟩⟩
        | false =>
          by_cases e3 : p.kind = 3
          · have q3 : (p.kind == 3) = true := by simp [e3]
            by_cases e4 : p.tx = fr
            · have q4 : (p.tx == fr) = true := by simp [e4]
              clear e3 e4
              cases ok with
              | true => go_wp2_with fail; go_meet; exact ⟨true, by simp, rfl, ⟨fun _ => rfl, fun _ _ _ => rfl⟩⟩
              | false => go_wp2_with fail; go_meet; exact ⟨false, by simp, rfl, ⟨fun h => h, fun _ _ h => h⟩⟩
            · have q4 : (p.tx == fr) = false := by simp [e4]
              have E4 := box e4
              clear e3 e4
              go_wp2_with fail; go_meet; exact ⟨false, by simp, rfl, ⟨fun h => h, fun _ h _ => absurd h E4.out⟩⟩
          · have q3 : (p.kind == 3) = false := by simp [e3]
            have E3 := box e3
            clear e3
            go_wp2_with fail; go_meet; exact ⟨false, by simp, rfl, ⟨fun h => h, fun h _ _ => absurd h E3.out⟩⟩
      case rest =>
      obtain ⟨cm', rfl, rfl, HCM⟩ := hcut
      have HN2 := box (HN.out cm' HCM.out.1 HCM.out.2)
      clear HN HCM Hcm
      by_cases hpo : p = o
      · have HS2 := box (HS1.out hpo)
        have w0 : (p.tx == o.tx) = true := by simp [hpo]
        have w1 : (p.kind == o.kind) = true := by simp [hpo]
        have w2 : (p.item == o.item) = true := by simp [hpo]
        clear hpo HS1
        cases own with
        | true =>
          cases hf : (fk != fr) with
          | true =>
            go_wp2_with fail
            go_roundw
            case rel => exact ⟨k + 1, cm', hlt2, by go_num, rfl, HN2, HbW, HxW⟩
            case measure => simp [intOf]; omega
          | false =>
            go_wp2_with fail
            go_roundw
            case rel => exact ⟨k + 1, cm', hlt2, by go_num, rfl, HN2, HbW, HxW⟩
            case measure => simp [intOf]; omega
        | false =>
          have hf : (fk != fr) = false := by rw [HS2.out rfl]; simp
          go_wp2_with fail
          go_roundw
          case rel => exact ⟨k + 1, cm', hlt2, by go_num, rfl, HN2, HbW, HxW⟩
          case measure => simp [intOf]; omega
      · clear HS1
        cases w0 : (p.tx == o.tx) with
        | false =>
          clear hpo
          go_wp2_with fail
          go_roundw
          case rel => exact ⟨k + 1, cm', hlt2, by go_num, rfl, HN2, HbW, HxW⟩
          case measure => simp [intOf]; omega
        | true =>
          cases w1 : (p.kind == o.kind) with
          | false =>
            clear hpo
            go_wp2_with fail
            go_roundw
            case rel => exact ⟨k + 1, cm', hlt2, by go_num, rfl, HN2, HbW, HxW⟩
            case measure => simp [intOf]; omega
          | true =>
            cases w2 : (p.item == o.item) with
            | false =>
              clear hpo
              go_wp2_with fail
              go_roundw
              case rel => exact ⟨k + 1, cm', hlt2, by go_num, rfl, HN2, HbW, HxW⟩
              case measure => simp [intOf]; omega
            | true =>
              exfalso
              apply hpo
              rw [beq_iff_eq] at w0 w1 w2
              cases p; cases o
              simp only at w0 w1 w2
              rw [w0, w1, w2]
namespace lawSnapSees
open Go.ChangeShapes Go.WideShapes Go.ChangeAt Go.RowKit Go.ChangeMaps

set_option maxRecDepth 100000 in
theorem lifted (os : Os) (started : os.Started) (H : Type) (enc : TypeId × Value → H) :
    ReturnsInHanded {} Try.checked os 7 .any (Rows.snapSeesSpec.pre6 enc Try.prog Try.f7 [] false) (Rows.snapSeesSpec.post enc Try.prog Try.f7 false true false false) := by
  refine LawKit.law_lifted started (by kernel_rfl) Try.func7 rfl
    (fun ds h => by
      match ds, h with
      | [_], _ => rfl)
    rfl Try.underlying4 (by intro t ht; exact of_decide_eq_true (p := Try.prog.readableRec t = true ∧ t < Try.prog.types.size) (by revert t ht; decide +kernel))
    (ChangeSpec.witness6 (enc := enc) (C := Try.checked) false ⟨#[], #[.slice none 0 0], []⟩ 8 (by kernel_rfl) (by kernel_rfl) (by kernel_rfl) (by kernel_rfl)) ?_
  intro W base args ds ps hval hA hsz hlt hfz
  have hA' := hA
  rw [Try.params7] at hA hval
  obtain ⟨v0, vs0, d0, ds0, p0, q0, hargs, rfl, rfl, h0, r0⟩ := trodAll_cons hA
  obtain ⟨rfl, rfl, rfl⟩ := trodAll_nil r0
  obtain rfl : args = #[v0] := by cases args; simp_all
  obtain ⟨ao, cap, ls, rfl, hnil, hat, hfits, hlc, _⟩ := open_ops (hval 0 _ _ rfl rfl) h0 (Open.weights_bound hsz (j := 0) (by rw [Try.params7]; rfl) rfl)
  refine (snapSees_calls ls ao cap W hat hfits hlc).mono ?_
  rintro e W' ⟨rfl, hb⟩
  exact ⟨rfl, hb⟩

theorem proved : Rows.SnapSeesSaid :=
  OpenClaim.holds_of_wide 7 Try.f7 rfl rfl rfl rfl rfl rfl rfl ⟨rfl, rfl, rfl, rfl, rfl⟩ rfl rfl rfl rfl rfl (by kernel_rfl) Try.func7 (by kernel_rfl)
    (of_decide_eq_true (by kernel_rfl)) (by unfold Func.isWrapper; first | (rw [if_pos (by decide +kernel)]; kernel_rfl) | (rw [if_neg (by decide +kernel)]; exact ⟨rfl, rfl⟩))
    (fun os started H enc _ => lifted os started H enc)
end lawSnapSees
end Go.Proofs.Ytlmibgjflgkalaa
