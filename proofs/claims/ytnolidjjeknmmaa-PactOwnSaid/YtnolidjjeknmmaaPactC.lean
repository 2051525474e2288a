/- pact.Check: what it answers. -/
import Derived.Test.YtnolidjjeknmmaaPactM2
import Derived.Test.YtnolidjjeknmmaaSlFind
namespace Go.Proofs.Ytnolidjjeknmmaa
open Go.RowKit Go.Lib

def PactM.CheckPost (s : PactSt) (e : Ending) : Prop := ∃ c : Int, e = .returned (.int .i64 c) ∧ (c = 0 ↔ PactM.Good s)
theorem PactM.bad_code {s : PactSt} {c : Int} (hc : c ≠ 0) (h : ¬ PactM.Good s) : (c = 0 ↔ PactM.Good s) := ⟨fun e => absurd e hc, fun e => absurd e h⟩
theorem PactM.yes_next {y : Bool} {V : Nat → Int} {k : Nat} {v : Int} (h : y = true ↔ ∀ j, j < k → V j = 1) (hv : V k = v) : ((y && decide (v = 1)) = true ↔ ∀ j, j < k + 1 → V j = 1) := by
  rw [Bool.and_eq_true, h, decide_eq_true_iff]
  constructor
  · rintro ⟨h1, h2⟩ j hj
    by_cases e : j = k
    · subst e; omega
    · exact h1 j (by omega)
  · intro h1
    exact ⟨fun j hj => h1 j (by omega), by rw [← hv]; exact h1 k (by omega)⟩
theorem PactM.over_next {o : Bool} {P : Nat → Int} {k : Nat} {p : Int} (h : o = true ↔ ∃ j, j < k ∧ P j = 3) (hp : P k = p) : ((o || decide (p = 3)) = true ↔ ∃ j, j < k + 1 ∧ P j = 3) := by
  rw [Bool.or_eq_true, h, decide_eq_true_iff]
  constructor
  · rintro (⟨j, h1, h2⟩ | h1)
    · exact ⟨j, by omega, h2⟩
    · exact ⟨k, by omega, by omega⟩
  · rintro ⟨j, h1, h2⟩
    by_cases e : j = k
    · subst e; right; omega
    · left; exact ⟨j, by omega, h2⟩
theorem PactM.ref_next {r : Bool} {P V : Nat → Int} {k : Nat} {p v : Int} (h : r = true ↔ ∃ j, j < k ∧ P j = 3 ∧ V j ≠ 1) (hp : P k = p) (hv : V k = v) : ((r || (decide (p = 3) && decide (v ≠ 1))) = true ↔ ∃ j, j < k + 1 ∧ P j = 3 ∧ V j ≠ 1) := by
  rw [Bool.or_eq_true, h, Bool.and_eq_true, decide_eq_true_iff, decide_eq_true_iff]
  constructor
  · rintro (⟨j, h1, h2⟩ | ⟨h1, h2⟩)
    · exact ⟨j, by omega, h2⟩
    · exact ⟨k, by omega, by omega, by omega⟩
  · rintro ⟨j, h1, h2, h3⟩
    by_cases e : j = k
    · subst e; right; exact ⟨by omega, by omega⟩
    · left; exact ⟨j, by omega, h2, h3⟩
theorem PactM.each_next {lead : Int} {P V : Nat → Int} {k : Nat} {p v : Int} (h : ∀ j, j < k → PactM.okI lead (P j) (V j)) (hp : P k = p) (hv : V k = v) (hk : PactM.okI lead p v) : ∀ j, j < k + 1 → PactM.okI lead (P j) (V j) := fun j hj => by
  by_cases e : j = k
  · subst e; rw [hp, hv]; exact hk
  · exact h j (by omega)
theorem getD_of_lt {l : List Int} {i : Nat} (h : i < l.length) : l.getD i 0 = l[i] := by
  rw [List.getD_eq_getElem?_getD, List.getElem?_eq_getElem h]; rfl

set_option maxRecDepth 20000 in
set_option maxHeartbeats 16000000 in
theorem pactCheck_any (s : PactSt) (vo po : Option Addr) (vc pc : Nat) (w : World) (hv : IntsAt w vo s.votes) (hp : IntsAt w po s.parts) :
    Calls Try.prog 18 #[.agg #[.int .i64 s.lead, .slice vo s.votes.length vc, .slice po s.parts.length pc]] w fun e w' => PactM.CheckPost s e ∧ Below w.heap.size w w' := by
  obtain ⟨lead, HLd⟩ : ∃ x, Box (s.lead = x) := ⟨_, ⟨rfl⟩⟩
  have HIv := box hv; have HIp := box hp
  clear hv hp
  rw [HLd.out]
  obtain ⟨n, HLn⟩ : ∃ x, Box (s.parts.length = x) := ⟨_, ⟨rfl⟩⟩
  obtain ⟨m, HLm⟩ : ∃ x, Box (s.votes.length = x) := ⟨_, ⟨rfl⟩⟩
  rw [HLn.out, HLm.out]
  cases d1 : decide ((n : Int) < 1) with
  | true =>
    have HB : Box (¬ PactM.Good s) := ⟨fun hg => by have h1 := hg.n1; have := HLn.out; simp at d1; omega⟩
    go_enter Try.func18, Try.ntmps18
    go_wp2_with fail
    go_ret
    exact ⟨⟨_, rfl, PactM.bad_code (by decide) HB.out⟩, (Below.refl _ _).alloc (Nat.le_refl _) _⟩
  | false =>
  cases d2 : decide ((8 : Int) < (n : Int)) with
  | true =>
    have HB : Box (¬ PactM.Good s) := ⟨fun hg => by have h1 := hg.n8; have := HLn.out; simp at d2; omega⟩
    go_enter Try.func18, Try.ntmps18
    go_wp2_with fail
    go_ret
    exact ⟨⟨_, rfl, PactM.bad_code (by decide) HB.out⟩, (Below.refl _ _).alloc (Nat.le_refl _) _⟩
  | false =>
  cases d3 : ((m : Int) == (n : Int)) with
  | false =>
    have d3' : ((m : Int) != (n : Int)) = true := by simp at d3 ⊢; omega
    have HB : Box (¬ PactM.Good s) := ⟨fun hg => by have h1 := hg.vl; have := HLn.out; have := HLm.out; simp at d3; omega⟩
    go_enter Try.func18, Try.ntmps18
    go_wp2_with fail
    go_ret
    exact ⟨⟨_, rfl, PactM.bad_code (by decide) HB.out⟩, (Below.refl _ _).alloc (Nat.le_refl _) _⟩
  | true =>
  have hmn : m = n := by simp at d3; omega
  subst hmn
  have d3' : ((m : Int) != (m : Int)) = false := by simp
  clear d3
  cases d4 : decide (lead < 0) with
  | true =>
    have HB : Box (¬ PactM.Good s) := ⟨fun hg => by have h1 := hg.l0; have := HLd.out; simp at d4; omega⟩
    go_enter Try.func18, Try.ntmps18
    go_wp2_with fail
    go_ret
    exact ⟨⟨_, rfl, PactM.bad_code (by decide) HB.out⟩, (Below.refl _ _).alloc (Nat.le_refl _) _⟩
  | false =>
  cases d5 : decide (2 < lead) with
  | true =>
    have HB : Box (¬ PactM.Good s) := ⟨fun hg => by have h1 := hg.l2; have := HLd.out; simp at d5; omega⟩
    go_enter Try.func18, Try.ntmps18
    go_wp2_with fail
    go_ret
    exact ⟨⟨_, rfl, PactM.bad_code (by decide) HB.out⟩, (Below.refl _ _).alloc (Nat.le_refl _) _⟩
  | false =>
  have hlead : 0 ≤ lead ∧ lead ≤ 2 := by simp at d4 d5; omega
  have hm8 : 1 ≤ m ∧ m ≤ 8 := by simp at d1 d2; omega
  go_enter Try.func18, Try.ntmps18
  go_upto_region 1 with (fail)
  refine name_world (fun W => Below w.heap.size w W ∧ Blk W w.heap.size 27 [.int .i64 lead, .slice vo m vc, .slice po m pc]) ⟨(Below.refl _ _).alloc (Nat.le_refl _) _, Blk.new _ _ _⟩ ?_
  rintro W ⟨hbW, hkW⟩
  obtain ⟨B, HBx⟩ : ∃ B, Box (w.heap.size = B) := ⟨_, ⟨rfl⟩⟩
  have Hb := box hbW
  rw [HBx.out] at hkW ⊢
  have x0 := hkW.cell (i := 0) rfl
  have x1 := hkW.cell (i := 1) rfl
  have x2 := hkW.cell (i := 2) rfl
  clear hbW hkW
  have HIvW := box (HIv.out.below Hb.out (Nat.le_refl _))
  have HIpW := box (HIp.out.below Hb.out (Nat.le_refl _))
  go_wp2_with fail
  go_loop [4, 5, 6, 39] (fun t4 t5 t6 t39 => ∃ (k : Nat) (y o r : Bool), k ≤ m ∧ t39 = .int .i64 (k : Int) ∧ t4 = .bool y ∧ t6 = .bool o ∧ t5 = .bool r ∧ Box (y = true ↔ ∀ j, j < k → s.votes.getD j 0 = 1) ∧ Box (o = true ↔ ∃ j, j < k ∧ s.parts.getD j 0 = 3) ∧ Box (r = true ↔ ∃ j, j < k ∧ s.parts.getD j 0 = 3 ∧ s.votes.getD j 0 ≠ 1) ∧ Box (∀ j, j < k → PactM.okI lead (s.parts.getD j 0) (s.votes.getD j 0))) (fun _ _ _ t39 => m - (intOf t39).toNat)
  case atStart => exact ⟨0, true, false, false, Nat.zero_le _, rfl, rfl, rfl, rfl, ⟨by simp⟩, ⟨by simp⟩, ⟨by simp⟩, ⟨fun j h => by omega⟩⟩
  case round =>
    obtain ⟨k, y, o, r, hk, rfl, rfl, rfl, rfl, HY, HO, HR, HE⟩ := hrel
    by_cases hlt : k < m
    case neg =>
      have hkm : k = m := by omega
      subst hkm
      have HG : Box (PactM.Good s ↔ ((lead = 1 → y = true ∧ o = false) ∧ (lead = 0 → o = true → r = true))) := ⟨by
        have hLd := HLd.out; have hLn := HLn.out; have hLm := HLm.out
        constructor
        · intro hg
          refine ⟨fun hl => ?_, fun hl ho => ?_⟩
          · have hc := hg.com (by omega)
            refine ⟨HY.out.2 fun j hj => (hc j (by omega)).1, ?_⟩
            cases o with
            | false => rfl
            | true =>
              obtain ⟨j, hj, h3⟩ := HO.out.1 rfl
              exact absurd h3 (hc j (by omega)).2
          · obtain ⟨j, hj, h3⟩ := HO.out.1 ho
            obtain ⟨i, hi, h4, h5⟩ := hg.opn (by omega) ⟨j, by omega, h3⟩
            exact HR.out.2 ⟨i, by omega, h4, h5⟩
        · rintro ⟨h1, h2⟩
          refine ⟨by omega, by omega, by omega, by omega, by omega, fun i hi => by rw [hLd]; exact HE.out i (by omega), fun hl i hi => ?_, fun hl ⟨j, hj, h3⟩ => ?_⟩
          · obtain ⟨hy, ho⟩ := h1 (by omega)
            refine ⟨HY.out.1 hy i (by omega), fun h3 => ?_⟩
            have : o = true := HO.out.2 ⟨i, by omega, h3⟩
            rw [ho] at this; cases this
          · obtain ⟨i, hi, h4, h5⟩ := HR.out.1 (h2 (by omega) (HO.out.2 ⟨j, by omega, h3⟩))
            exact ⟨i, by omega, h4, h5⟩⟩
      clear HY HO HR HE d4 d5 HLd
      rcases (show lead = 0 ∨ lead = 1 ∨ lead = 2 by omega) with rfl | rfl | rfl <;> cases y <;> cases o <;> cases r <;> (go_wp2_with fail) <;> go_ret <;> exact ⟨⟨_, rfl, by rw [HG.out]; simp⟩, Hb.out⟩
    have hkv : k < s.votes.length := by rw [HLm.out]; exact hlt
    have hkp : k < s.parts.length := by rw [HLn.out]; exact hlt
    obtain ⟨bv, offv, rfl, _, hrv⟩ := (HIvW.out.resolve_left (by intro h; rw [h] at hkv; simp at hkv))
    obtain ⟨bp, offp, rfl, _, hrp⟩ := (HIpW.out.resolve_left (by intro h; rw [h] at hkp; simp at hkp))
    have hcv := hrv k hkv
    have hcp := hrp k hkp
    have HV := box (getD_of_lt hkv)
    have HP := box (getD_of_lt hkp)
    generalize s.votes[k] = v at *
    generalize s.parts[k] = p at *
    clear hrv hrp
    have HBad : Box (¬ PactM.okI lead p v → ¬ PactM.Good s) := ⟨fun h hg => h (by have h1 := hg.each k hkp; rw [HP.out, HV.out, HLd.out] at h1; exact h1)⟩
    cases e1 : decide (p < 0) with
    | true =>
      have HB := box (HBad.out (by unfold PactM.okI; simp at e1; omega))
      clear HY HO HR HE
      go_wp2_with fail
      go_ret
      exact ⟨⟨_, rfl, PactM.bad_code (by decide) HB.out⟩, Hb.out⟩
    | false =>
    cases e2 : decide (3 < p) with
    | true =>
      have HB := box (HBad.out (by unfold PactM.okI; simp at e2; omega))
      clear HY HO HR HE
      go_wp2_with fail
      go_ret
      exact ⟨⟨_, rfl, PactM.bad_code (by decide) HB.out⟩, Hb.out⟩
    | false =>
    cases e3 : decide (v < 0) with
    | true =>
      have HB := box (HBad.out (by unfold PactM.okI; simp at e3; omega))
      clear HY HO HR HE
      go_wp2_with fail
      go_ret
      exact ⟨⟨_, rfl, PactM.bad_code (by decide) HB.out⟩, Hb.out⟩
    | false =>
    cases e4 : decide (2 < v) with
    | true =>
      have HB := box (HBad.out (by unfold PactM.okI; simp at e4; omega))
      clear HY HO HR HE
      go_wp2_with fail
      go_ret
      exact ⟨⟨_, rfl, PactM.bad_code (by decide) HB.out⟩, Hb.out⟩
    | false =>
    have hpr : 0 ≤ p ∧ p ≤ 3 ∧ 0 ≤ v ∧ v ≤ 2 := by simp at e1 e2 e3 e4; omega
    clear e1 e2 e3 e4
    rcases (show p = 0 ∨ p = 1 ∨ p = 2 ∨ p = 3 by omega) with rfl | rfl | rfl | rfl
    · rcases (show v = 0 ∨ v = 1 ∨ v = 2 by omega) with rfl | rfl | rfl
      · have HN1 := box (PactM.yes_next HY.out HV.out)
        have HN2 := box (PactM.over_next HO.out HP.out)
        have HN3 := box (PactM.ref_next HR.out HP.out HV.out)
        have HN4 := box (PactM.each_next HE.out HP.out HV.out (by unfold PactM.okI; omega))
        clear HY HO HR HE
        cases y <;> cases o <;> cases r <;> (go_wp2_with fail) <;> exact ⟨⟨k + 1, _, _, _, hlt, by go_num, rfl, rfl, rfl, HN1, HN2, HN3, HN4⟩, by simp [intOf]; omega⟩
      · have HB := box (HBad.out (by unfold PactM.okI; omega))
        clear HY HO HR HE
        go_wp2_with fail
        go_ret
        exact ⟨⟨_, rfl, PactM.bad_code (by decide) HB.out⟩, Hb.out⟩
      · have HB := box (HBad.out (by unfold PactM.okI; omega))
        clear HY HO HR HE
        go_wp2_with fail
        go_ret
        exact ⟨⟨_, rfl, PactM.bad_code (by decide) HB.out⟩, Hb.out⟩
    · rcases (show v = 0 ∨ v = 1 ∨ v = 2 by omega) with rfl | rfl | rfl
      · have HN1 := box (PactM.yes_next HY.out HV.out)
        have HN2 := box (PactM.over_next HO.out HP.out)
        have HN3 := box (PactM.ref_next HR.out HP.out HV.out)
        have HN4 := box (PactM.each_next HE.out HP.out HV.out (by unfold PactM.okI; omega))
        clear HY HO HR HE
        cases y <;> cases o <;> cases r <;> (go_wp2_with fail) <;> exact ⟨⟨k + 1, _, _, _, hlt, by go_num, rfl, rfl, rfl, HN1, HN2, HN3, HN4⟩, by simp [intOf]; omega⟩
      · have HN1 := box (PactM.yes_next HY.out HV.out)
        have HN2 := box (PactM.over_next HO.out HP.out)
        have HN3 := box (PactM.ref_next HR.out HP.out HV.out)
        have HN4 := box (PactM.each_next HE.out HP.out HV.out (by unfold PactM.okI; omega))
        clear HY HO HR HE
        cases y <;> cases o <;> cases r <;> (go_wp2_with fail) <;> exact ⟨⟨k + 1, _, _, _, hlt, by go_num, rfl, rfl, rfl, HN1, HN2, HN3, HN4⟩, by simp [intOf]; omega⟩
      · have HB := box (HBad.out (by unfold PactM.okI; omega))
        clear HY HO HR HE
        go_wp2_with fail
        go_ret
        exact ⟨⟨_, rfl, PactM.bad_code (by decide) HB.out⟩, Hb.out⟩
    · rcases (show v = 0 ∨ v = 1 ∨ v = 2 by omega) with rfl | rfl | rfl
      · by_cases hl : lead = 1
        · have ql : (lead == 1) = true := by simpa using hl
          have ql2 : (lead != 1) = false := by simp [hl]
          have HN1 := box (PactM.yes_next HY.out HV.out)
          have HN2 := box (PactM.over_next HO.out HP.out)
          have HN3 := box (PactM.ref_next HR.out HP.out HV.out)
          have HN4 := box (PactM.each_next HE.out HP.out HV.out (by unfold PactM.okI; omega))
          clear HY HO HR HE
          cases y <;> cases o <;> cases r <;> (go_wp2_with fail) <;> exact ⟨⟨k + 1, _, _, _, hlt, by go_num, rfl, rfl, rfl, HN1, HN2, HN3, HN4⟩, by simp [intOf]; omega⟩
        · have ql : (lead == 1) = false := by simpa using hl
          have ql2 : (lead != 1) = true := by simpa using hl
          have HB := box (HBad.out (by unfold PactM.okI; omega))
          clear HY HO HR HE
          go_wp2_with fail
          go_ret
          exact ⟨⟨_, rfl, PactM.bad_code (by decide) HB.out⟩, Hb.out⟩
      · by_cases hl : lead = 1
        · have ql : (lead == 1) = true := by simpa using hl
          have ql2 : (lead != 1) = false := by simp [hl]
          have HN1 := box (PactM.yes_next HY.out HV.out)
          have HN2 := box (PactM.over_next HO.out HP.out)
          have HN3 := box (PactM.ref_next HR.out HP.out HV.out)
          have HN4 := box (PactM.each_next HE.out HP.out HV.out (by unfold PactM.okI; omega))
          clear HY HO HR HE
          cases y <;> cases o <;> cases r <;> (go_wp2_with fail) <;> exact ⟨⟨k + 1, _, _, _, hlt, by go_num, rfl, rfl, rfl, HN1, HN2, HN3, HN4⟩, by simp [intOf]; omega⟩
        · have ql : (lead == 1) = false := by simpa using hl
          have ql2 : (lead != 1) = true := by simpa using hl
          have HB := box (HBad.out (by unfold PactM.okI; omega))
          clear HY HO HR HE
          go_wp2_with fail
          go_ret
          exact ⟨⟨_, rfl, PactM.bad_code (by decide) HB.out⟩, Hb.out⟩
      · have HB := box (HBad.out (by unfold PactM.okI; omega))
        clear HY HO HR HE
        go_wp2_with fail
        go_ret
        exact ⟨⟨_, rfl, PactM.bad_code (by decide) HB.out⟩, Hb.out⟩
    · rcases (show v = 0 ∨ v = 1 ∨ v = 2 by omega) with rfl | rfl | rfl
      · have HN1 := box (PactM.yes_next HY.out HV.out)
        have HN2 := box (PactM.over_next HO.out HP.out)
        have HN3 := box (PactM.ref_next HR.out HP.out HV.out)
        have HN4 := box (PactM.each_next HE.out HP.out HV.out (by unfold PactM.okI; omega))
        clear HY HO HR HE
        cases y <;> cases o <;> cases r <;> (go_wp2_with fail) <;> exact ⟨⟨k + 1, _, _, _, hlt, by go_num, rfl, rfl, rfl, HN1, HN2, HN3, HN4⟩, by simp [intOf]; omega⟩
      · have HN1 := box (PactM.yes_next HY.out HV.out)
        have HN2 := box (PactM.over_next HO.out HP.out)
        have HN3 := box (PactM.ref_next HR.out HP.out HV.out)
        have HN4 := box (PactM.each_next HE.out HP.out HV.out (by unfold PactM.okI; omega))
        clear HY HO HR HE
        cases y <;> cases o <;> cases r <;> (go_wp2_with fail) <;> exact ⟨⟨k + 1, _, _, _, hlt, by go_num, rfl, rfl, rfl, HN1, HN2, HN3, HN4⟩, by simp [intOf]; omega⟩
      · have HN1 := box (PactM.yes_next HY.out HV.out)
        have HN2 := box (PactM.over_next HO.out HP.out)
        have HN3 := box (PactM.ref_next HR.out HP.out HV.out)
        have HN4 := box (PactM.each_next HE.out HP.out HV.out (by unfold PactM.okI; omega))
        clear HY HO HR HE
        cases y <;> cases o <;> cases r <;> (go_wp2_with fail) <;> exact ⟨⟨k + 1, _, _, _, hlt, by go_num, rfl, rfl, rfl, HN1, HN2, HN3, HN4⟩, by simp [intOf]; omega⟩
end Go.Proofs.Ytnolidjjeknmmaa
