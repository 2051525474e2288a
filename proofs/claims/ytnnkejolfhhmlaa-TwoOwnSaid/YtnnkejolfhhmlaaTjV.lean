/- (*walker).visit. -/
import Derived.Test.YtnnkejolfhhmlaaTjW
import Derived.Test.YtnnkejolfhhmlaaIntClone
import Derived.Deep.DeepMust
import Derived.Deep.RegionLaw
import Derived.BigRegion
namespace Go.Proofs.Ytnnkejolfhhmlaa
open Go.RowKit Go.Lib

theorem IntsM.idx_atJ {l : List Int} (hnd : l.Nodup) {j : Nat} (hj : j < l.length) : IntsM.idx l l[j] = j := by
  have : l.findIdx (fun y => l[j] == y) = j := by
    rw [List.findIdx_eq hj]
    refine ⟨by simp, fun i hi => ?_⟩
    have := List.pairwise_iff_getElem.1 (List.nodup_iff_pairwise_ne.1 hnd) i j (by omega) hj hi
    simpa using fun h => this h.symm
  unfold IntsM.idx IntsM.find
  rw [this, if_pos hj]
theorem GrM.ints_nodup {l : List Nat} (h : l.Nodup) : (GrM.ints l).Nodup := by
  unfold GrM.ints
  rw [List.nodup_iff_pairwise_ne, List.pairwise_map]
  exact (List.nodup_iff_pairwise_ne.1 h).imp (fun h e => h (by omega))
theorem TjM.idx_k {n : Nat} {l : List EgM} {G : List Nat} {s t : TjSt} {k i : Nat} (h : TjM.Mid n l G s k i t) : IntsM.idx (GrM.ints t.stack) (k : Int) = (s.stack.length : Int) ∧ s.stack.length < t.stack.length := by
  obtain ⟨_, _, a, _, hst⟩ := h.idx
  have hlt : s.stack.length < t.stack.length := by rw [hst]; simp
  have hlt2 : s.stack.length < (GrM.ints t.stack).length := by unfold GrM.ints; rw [List.length_map]; exact hlt
  have e : (GrM.ints t.stack)[s.stack.length] = (k : Int) := by
    unfold GrM.ints
    simp [hst]
  have := IntsM.idx_atJ (GrM.ints_nodup h.inv.stnd) hlt2
  rw [e] at this
  exact ⟨this, hlt⟩
theorem TjM.stack_at {n : Nat} {l : List EgM} {G : List Nat} {s t : TjSt} {k i O A B W base : Nat} {w w1 wr : World} {v : Nat → Value} {pv : Value} (h : TjM.Mid n l G s k i t) (hM : TjMem n w w1 O A B W base t v pv wr) :
    ∃ sg scap, v 100 = .slice (some ⟨sg, 0, none⟩) t.stack.length scap ∧ IntsAt wr (some ⟨sg, 0, none⟩) (GrM.ints t.stack) ∧ t.stack.length ≤ scap ∧ scap ≤ 9223372036854775807 := by
  have ho : wr.ownsRow base 3 1 (v 100) t.stack.length (intVals (GrM.ints t.stack)) := hM.fam.own 100 (by omega)
  have hpos := (TjM.idx_k h).2
  obtain ⟨ao, cap, e, _, hat, _, _⟩ := IntsAt.own ho
  rcases ho.2 with ⟨_, h2⟩ | ⟨g, cap', cur, h1, h2, h3, h4, h5, _⟩
  · omega
  · rw [h1] at e
    injection e with e1 e2 e3
    subst e1
    unfold maxLen at h5
    exact ⟨g, cap', h1, hat, h4, by omega⟩
theorem TjM.sort_ints (l : List Nat) : (GrM.ints l).mergeSort (fun x y => decide (x ≤ y)) = GrM.ints (TjM.sortN l) := by
  unfold TjM.sortN GrM.ints
  rw [List.map_mergeSort (s := fun x y : Int => decide (x ≤ y))]
  intro a _ b _
  rw [Bool.eq_iff_iff, decide_eq_true_iff, decide_eq_true_iff]
  omega
/-- What a visit leaves. -/
def TjVisited (n : Nat) (l : List EgM) (w w1 : World) (O A B W base : Nat) (s : TjSt) (k : Nat) (e : Ending) (w' : World) : Prop :=
  e = .returned (.tuple #[]) ∧ ∃ s' v' pv', TjM.Run n l s k none s' ∧ TjMem n w w1 O A B W base s' v' pv' w'
set_option maxRecDepth 20000 in
set_option maxHeartbeats 16000000 in
theorem visit_any {n : Nat} {l : List EgM} {w w1 : World} {O A B W base : Nat} {a : Nat → Option Addr} {c : Nat → Nat} (hf : TjFix n l w w1 O A B W base a c) (hn : n ≤ 60) :
    ∀ (m : Nat) (s : TjSt) (v : Nat → Value) (pv : Value) (wr : World) (k : Nat) (G : List Nat), TjM.white n s ≤ m → TjMem n w w1 O A B W base s v pv wr → TjM.Inv n l G s → s.when k = 0 → k < n → (∀ g ∈ G, TjM.R n l g k) →
    Calls Try.prog 62 #[.pointer (some ⟨W, 0, none⟩), .int .i64 (k : Int)] wr (TjVisited n l w w1 O A B W base s k) := by
  obtain ⟨i0, hi0, hz0, hz1, hz2⟩ := info_parts Try.infoIntG
  obtain ⟨j0, hj0, hy0, hy1, hy2⟩ := info_parts Try.infoRows
  intro m
  induction m with
  | zero =>
    intro s v pv wr k G hm _ _ h0 hk _
    have := TjM.white_enter s hk h0
    omega
  | succ m ih =>
  intro s v pv wr k G hm hM hI h0 hk hG
  have IH := box ih
  have HI := box hI; have HG := box hG; have HF := box hf; have H0 := box h0; have HMm := box hm
  have hct := hI.ct
  have htime : s.time + 1 ≤ 60 := by
    have := TjM.white_enter s hk h0
    omega
  have H1 := box (hM.timed hf (s.time + 1))
  have HStk : Box (s.stack.length ≤ 60) := ⟨hI.stack_len hn⟩
  have HPl : Box (s.parts.length ≤ 100) := ⟨by have := hI.parts_len; omega⟩
  have c5 := hM.blk.cell (i := 5) rfl
  have z5 := hM.blk.frozen 5
  clear hm hI hG hf h0 ih hM hct
  go_enter Try.func62, Try.ntmps62
  go_upto_region 1 with (fail)
  rw [show ((s.time : Int) + 1) = ((s.time + 1 : Nat) : Int) from by omega]
  generalize hT : s.time + 1 = T at *
  refine name_world (fun X => TjMem n w w1 O A B W base { s with time := T } v pv X) H1.out ?_
  rintro W1 hM1
  have HM1 := box hM1
  have c1 := hM1.blk.cell (i := 1) rfl
  have c2 := hM1.blk.cell (i := 2) rfl
  have c3 := hM1.blk.cell (i := 5) rfl
  have ca := hM1.wt.cell hk
  have cb := hM1.lt.cell hk
  have hAB := HF.out.ne
  have hBA := Ne.symm HF.out.ne
  have za := Blk.frozen hM1.wt k
  have zb := Blk.frozen hM1.lt k
  have HTT := box hT
  have H2 := box ((hM1.whened HF.out k T).lowered HF.out k T)
  clear hM1 H1 c5 z5 hT
  go_region
  clear ca cb za zb c1 c2 c3 hAB hBA
  go_upto_region 2 with (fail)
  refine name_world (fun X => TjMem n w w1 O A B W base ⟨upd s.when k T, upd s.low k T, s.stack, s.parts, T⟩ v pv X) H2.out.drew ?_
  rintro W2 hM2
  have HM2 := box hM2
  have d3 := hM2.blk.cell (i := 3) rfl
  have hs2 := hM2.kept.size
  have hown : (W2.alloc (.cells #[.int .i64 (k : Int)] 3)).ownsRow base 3 1 (v 100) s.stack.length (intVals (GrM.ints s.stack)) := (hM2.fam.own 100 (by omega)).alloc _
  have hst := HStk.out
  clear hM2 H2 HM1
  go_wp2_with (at_builtin; go_must (refine wpList_append_lies _ rfl _ _ 23 rfl base 3 i0 _ 1 8 Try.underlying23 hi0 hz0 hz1 hz2 rfl (by decide) _ _ _ rfl hown ⟨W2.heap.size, 0, none⟩ 1 1 [.int .i64 (k : Int)] rfl rfl (cells_new W2 [.int .i64 (k : Int)] 3) (by simp [Value.oneCell']) (by decide) (by unfold maxLen; omega) (by omega) (by simp; omega) (W2.heap.size + 1) (by simp) ?_))
  intro gg gcap w7 hown7 hgrow7 hat7 hlt7
  have e1 : intVals (GrM.ints s.stack) ++ [.int .i64 (k : Int)] = intVals (GrM.ints (s.stack ++ [k])) := by unfold GrM.ints intVals; simp
  rw [e1] at hown7
  have HE := box ((HM2.out.alloc HF.out (.cells #[.int .i64 (k : Int)] 3)).pushed HF.out HPl.out hown7 hgrow7 (by
    rcases hat7 with h | h
    · exact Or.inl h.symm
    · right; simp [Value.ownBlock, h]))
  have hrow : ∀ q, (v 100).ownBlock = some q → base ≤ q := fun q hq => ((HM2.out.fam.own 100 (by omega)).lt q hq).1
  have bW := Blk.grown (HM2.out.blk.alloc (.cells #[.int .i64 (k : Int)] 3)) hgrow7 (fun e => by have := hrow W e; have := HF.out.lt.2.2; omega)
  have f3 := bW.cell (i := 3) rfl
  have z3 := bW.frozen 3
  clear hown7 hgrow7 hat7 hlt7 hown bW hrow e1 d3
  go_upto_region 3 with (fail)
  refine name_world (fun X => ∃ v', TjMem n w w1 O A B W base (TjM.enter s k) v' pv X) ⟨_, by have := HE.out; rw [← HTT.out] at this; exact this⟩ ?_
  rintro W3 ⟨v3, hM3⟩
  clear HE f3 z3 HTT HM2 hs2 hst
  have HR0 := box (HF.out.rows W3 hM3.kept k hk)
  have HRows : Box (∀ wx, Kept A B W base w1 wx → IntsAt wx (a k) (GrM.ints (GrM.next n l k))) := ⟨fun wx h => (HF.out.rows wx h k hk).2⟩
  have g0 := hM3.blk.cell (i := 0) rfl
  have g1 := HR0.out.1
  have HM3 := box hM3
  clear hM3 HR0
  obtain ⟨ak, HAk⟩ : ∃ x, Box (a k = x) := ⟨_, ⟨rfl⟩⟩
  obtain ⟨ck, HCk⟩ : ∃ x, Box (c k = x) := ⟨_, ⟨rfl⟩⟩
  obtain ⟨r, HR⟩ : ∃ x, Box (GrM.next n l k = x) := ⟨_, ⟨rfl⟩⟩
  obtain ⟨L, HL⟩ : ∃ x, Box (r.length = x) := ⟨_, ⟨rfl⟩⟩
  rw [HAk.out, HCk.out, HR.out, HL.out] at g1
  rw [HAk.out, HR.out] at HRows
  have hL60 : L ≤ 60 := by have := GrM.next_len n l k; rw [HR.out, HL.out] at this; omega
  go_wp2_with fail
  go_loopw [53] (fun t53 wx => ∃ (i : Nat) (t : TjSt) (v2 : Nat → Value) (pv2 : Value), i ≤ L ∧ t53 = .int .i64 (i : Int) ∧ Box (TjM.Run n l s k (some i) t) ∧ Box (TjMem n w w1 O A B W base t v2 pv2 wx)) (fun t53 _ => L - (RowKit.intOf t53).toNat)
  case atStart => exact ⟨0, _, v3, pv, Nat.zero_le _, rfl, ⟨.start s k⟩, HM3⟩
  case round =>
    obtain ⟨i, t, v2, pv2, hi, rfl, HRun, HM⟩ := hrel
    have HMid : Box (TjM.Mid n l G s k i t) := ⟨TjM.run_keeps HRun.out G HI.out H0.out hk HG.out⟩
    clear g0 g1 HM3
    by_cases hlt : i < L
    · have hir : i < (GrM.next n l k).length := by rw [HR.out, HL.out]; exact hlt
      have hir2 : i < (GrM.ints r).length := by rw [← HR.out]; simpa [GrM.ints] using hir
      obtain ⟨b, off, hak, hb, hrow⟩ := (HRows.out _ HM.out.kept).resolve_left (by intro h; rw [h] at hir2; simp at hir2)
      have hci := hrow i hir2
      have hxn := (TjM.nextAt hir).1
      have hxe : (GrM.ints r)[i] = (((GrM.next n l k)[i] : Nat) : Int) := by simp only [← HR.out]; simp [GrM.ints]
      rw [hxe] at hci
      obtain ⟨x, HX⟩ : ∃ x, Box ((GrM.next n l k)[i] = x) := ⟨_, ⟨rfl⟩⟩
      rw [HX.out] at hci hxn
      subst hak
      have c1 := HM.out.blk.cell (i := 1) rfl
      have cw := HM.out.wt.cell hxn
      clear hrow hir2 hxe hb
      by_cases hw : t.when x = 0
      · rw [hw] at cw
        go_wp2_with fail
        have hmid := HMid.out
        refine (IH.out t v2 pv2 wr x (k :: G) ?_ HM.out hmid.inv hw hxn ?_).mono ?_
        · have := hmid.inv.ct
          have := hmid.inv.tm k
          have := hmid.whk
          have := HI.out.ct
          have := HMm.out
          omega
        · intro g hg
          have he := (TjM.nextAt hir)
          rw [HX.out] at he
          rcases List.mem_cons.1 hg with rfl | hg
          · exact TjM.R.edge he.1 he.2
          · exact (HG.out g hg).trans (TjM.R.edge he.1 he.2)
        rintro e w5 ⟨rfl, t', v', pv', hrun', hM'⟩
        have HN : Box (TjM.Run n l s k (some (i + 1)) (TjM.lower t' k (t'.low x))) := ⟨by
          have h1 := TjM.Run.white HRun.out hir (by rw [HX.out]; exact hw) (by rw [HX.out]; exact hrun')
          rw [HX.out] at h1; exact h1⟩
        have c2 := hM'.blk.cell (i := 2) rfl
        have ck' := hM'.lt.cell hk
        have cx' := hM'.lt.cell hxn
        have zk := Blk.frozen hM'.lt k
        have HE := box (hM'.lowered HF.out k (min (t'.low k) (t'.low x)))
        clear hmid hw hrun' hM' c1 cw hci hir HM HMid HRun HX
        have HS : Box (TjM.lower t' k (t'.low x) = { t' with low := upd t'.low k (min (t'.low k) (t'.low x)) }) := ⟨rfl⟩
        generalize TjM.lower t' k (t'.low x) = tn at *
        generalize t'.low k = lk at *
        generalize t'.low x = lx at *
        have hm : ((min lk lx : Nat) : Int) = min (lk : Int) (lx : Int) := by omega
        rw [hm] at HE
        clear hm
        go_wp2_with fail
        go_region
        all_goals
          go_wp2_with fail
          go_roundw
          case rel => exact ⟨i + 1, _, v', pv', by omega, by go_num, HN, ⟨by rw [HS.out]; exact HE.out.drew⟩⟩
          case measure => simp [RowKit.intOf]; omega
      · have q0 : ((t.when x : Int) == 0) = false := by simp; omega
        have q0n : ((t.when x : Int) = 0) = False := by simp; omega
        obtain ⟨sao, scap, hsv, hsl, hsat, _, _⟩ := IntsAt.own (l := GrM.ints t.stack) (HM.out.fam.own 100 (by omega))
        have c3 := HM.out.blk.cell (i := 3) rfl
        rw [hsv] at c3
        have HSat := box hsat
        have hl60 : (GrM.ints t.stack).length ≤ 60 := by
          have := HMid.out.inv.stack_len hn
          unfold GrM.ints; rw [List.length_map]; exact this
        clear hsv hsl hsat
        go_wp2_with fail
        refine (contains_ints (GrM.ints t.stack) (x : Int) sao scap wr HSat.out (by omega)).mono ?_
        rintro e w5 ⟨rfl, rfl⟩
        have hmem : ((x : Int) ∈ GrM.ints t.stack) ↔ x ∈ t.stack := by
          unfold GrM.ints
          rw [List.mem_map]
          exact ⟨fun ⟨y, h1, h2⟩ => (by omega : y = x) ▸ h1, fun h => ⟨x, h, rfl⟩⟩
        by_cases hin : x ∈ t.stack
        · rw [decide_eq_true (hmem.2 hin)]
          have HN : Box (TjM.Run n l s k (some (i + 1)) (TjM.lower t k (t.when x))) := ⟨by
            have h1 := TjM.Run.on HRun.out hir (by rw [HX.out]; exact hw) (by rw [HX.out]; exact hin)
            rw [HX.out] at h1; exact h1⟩
          have c2 := HM.out.blk.cell (i := 2) rfl
          have ck' := HM.out.lt.cell hk
          have zk := Blk.frozen HM.out.lt k
          have HE := box (HM.out.lowered HF.out k (min (t.low k) (t.when x)))
          have HS : Box (TjM.lower t k (t.when x) = { t with low := upd t.low k (min (t.low k) (t.when x)) }) := ⟨rfl⟩
          clear hmem hin hw q0 q0n c3 hci hir HMid HRun HX HSat HM
          generalize TjM.lower t k (t.when x) = tn at *
          generalize t.low k = lk at *
          generalize t.when x = lx at *
          have hm : ((min lk lx : Nat) : Int) = min (lk : Int) (lx : Int) := by omega
          rw [hm] at HE
          clear hm
          go_wp2_with fail
          go_region
          all_goals
            go_wp2_with fail
            go_roundw
            case rel => exact ⟨i + 1, _, v2, pv2, by omega, by go_num, HN, ⟨by rw [HS.out]; exact HE.out.drew⟩⟩
            case measure => simp [RowKit.intOf]; omega
        · rw [decide_eq_false (fun h => hin (hmem.1 h))]
          have HN : Box (TjM.Run n l s k (some (i + 1)) t) := ⟨by
            exact TjM.Run.off HRun.out hir (by rw [HX.out]; exact hw) (by rw [HX.out]; exact hin)⟩
          clear hmem hin hw q0 q0n c3 hci hir HMid HRun HX HSat
          go_wp2_with fail
          go_roundw
          case rel => exact ⟨i + 1, t, v2, pv2, by omega, by go_num, HN, HM⟩
          case measure => simp [RowKit.intOf]; omega
    · obtain rfl : i = L := by omega
      have HRunL : Box (TjM.Run n l s k (some (GrM.next n l k).length) t) := ⟨by rw [HR.out, HL.out]; exact HRun.out⟩
      have HMidL : Box (TjM.Mid n l G s k (GrM.next n l k).length t) := ⟨by rw [HR.out, HL.out]; exact HMid.out⟩
      have HFin := box (TjM.Run.fin HRunL.out)
      clear HRun HMid HRows HR HL hL60 hlt hi HRunL IH HI HG HMm
      have c1 := HM.out.blk.cell (i := 1) rfl
      have c2 := HM.out.blk.cell (i := 2) rfl
      have cw := HM.out.wt.cell hk
      have cl := HM.out.lt.cell hk
      by_cases hc : t.low k = t.when k
      · have HLv : Box (TjM.leave t k = { t with parts := t.parts ++ [TjM.sortN (t.stack.drop s.stack.length)], stack := t.stack.take s.stack.length }) := ⟨by
          unfold TjM.leave
          rw [if_pos hc, HMidL.out.idx.1]⟩
        rw [hc] at cl
        have q2 : ((t.when k : Int) == (t.when k : Int)) = true := by simp
        clear hc
        go_wp2_with fail
        go_quiet (fail)
        go_upto_region 13 with (fail)
        refine name_world (fun X => TjMem n w w1 O A B W base t v2 pv2 X) (HM.out.drewN _) ?_
        rintro W8 hM8
        have HM8 := box hM8
        obtain ⟨sg, scap, hsv, hsat, hsg⟩ : ∃ sg scap, v2 100 = .slice (some ⟨sg, 0, none⟩) t.stack.length scap ∧ IntsAt W8 (some ⟨sg, 0, none⟩) (GrM.ints t.stack) ∧ t.stack.length ≤ scap ∧ scap ≤ 9223372036854775807 := TjM.stack_at HMidL.out hM8
        have c3 := hM8.blk.cell (i := 3) rfl
        rw [hsv] at c3
        have HSv := box hsv; have HSat := box hsat
        have hix := index_ints (GrM.ints t.stack) (k : Int) (some ⟨sg, 0, none⟩) scap W8 hsat (by
          have := HMidL.out.inv.stack_len hn
          unfold GrM.ints; rw [List.length_map]; omega)
        rw [show (GrM.ints t.stack).length = t.stack.length by simp [GrM.ints], (TjM.idx_k HMidL.out).1] at hix
        have hPS := (TjM.idx_k HMidL.out).2
        have hS60 := HMidL.out.inv.stack_len hn
        obtain ⟨SL, HSL⟩ : ∃ x, Box (t.stack.length = x) := ⟨_, ⟨rfl⟩⟩
        obtain ⟨P, HP⟩ : ∃ x, Box (s.stack.length = x) := ⟨_, ⟨rfl⟩⟩
        rw [HSL.out] at HSv hix hPS hsg hS60 c3
        rw [HP.out] at HLv hix hPS
        have HIx := box hix
        clear hM8 hsv hsat hix HM cw cl c1 c2 q2
        go_wp2_with fail
        refine HIx.out.mono ?_
        rintro e w9 ⟨rfl, rfl⟩
        have p1 : decide ((P : Int) < 0) = false := decide_eq_false (by omega)
        have p2 : decide ((SL : Int) < (P : Int)) = false := decide_eq_false (by omega)
        have hDl : (GrM.ints (t.stack.drop P)).length = SL - P := by unfold GrM.ints; rw [List.length_map, List.length_drop, HSL.out]
        have hDat : IntsAt W8 (some ⟨sg, P, none⟩) (GrM.ints (t.stack.drop P)) := by
          obtain ⟨b, off, hbo, hbl, hrow⟩ := HSat.out.resolve_left (by intro h; have := congrArg List.length h; simp [GrM.ints, HSL.out] at this; omega)
          injection hbo with hbo
          injection hbo with hb1 hb2
          subst hb1; subst hb2
          refine Or.inr ⟨sg, P, rfl, hbl, fun q hq => ?_⟩
          have := hrow (P + q) (by simp only [GrM.ints, List.length_map, List.length_drop] at hq ⊢; omega)
          rw [show 0 + (P + q) = P + q by omega] at this
          rw [this]
          simp [GrM.ints]
        have hcl := cloneInts_pos (GrM.ints (t.stack.drop P)) (some ⟨sg, P, none⟩) (scap - P) W8 hDat (by omega) (by omega)
        rw [hDl] at hcl
        have HCl := box hcl
        have HDl := box hDl
        clear hDat hcl hDl
        go_wp2_with fail
        refine HCl.out.mono ?_
        rintro e w10 ⟨⟨gn, cn, rfl, hg1, hg2, hown⟩, hb10⟩
        have hso := sort_ints (GrM.ints (t.stack.drop P)) gn cn W8.heap.size 3 w10 (by rw [HDl.out]; exact hown) (by rw [HDl.out]; omega)
        rw [HDl.out, TjM.sort_ints] at hso
        have HSo := box hso
        have HB10 := box hb10
        clear HCl hown hso hb10 hg2
        go_wp2_with fail
        refine HSo.out.mono ?_
        rintro e w11 ⟨rfl, hown, hgr⟩
        have hb11 : Below W8.heap.size W8 w11 := HB10.out.grown hgr HB10.out.size (fun q hq => by injection hq with hq; omega)
        have hs8 := HM8.out.kept.size
        have hs11 := hb11.size
        have HSn : Box ((TjM.sortN (t.stack.drop P)).length = SL - P) := ⟨by rw [(TjM.sortN_perm _).length_eq, List.length_drop, HSL.out]⟩
        have HNv : Box ((w11.alloc (.cells #[.slice (some ⟨gn, 0, none⟩) (SL - P) cn] 23)).ownsRow base 3 1 (.slice (some ⟨gn, 0, none⟩) (SL - P) cn) (TjM.sortN (t.stack.drop P)).length (intVals (GrM.ints (TjM.sortN (t.stack.drop P))))) := ⟨by
          rw [HSn.out]; exact (ownsRow_mono hown hs8).alloc _⟩
        have hT := (ownsRow_below HM8.out.tab hb11).alloc (.cells #[.slice (some ⟨gn, 0, none⟩) (SL - P) cn] 23)
        have hPL : t.parts.length ≤ 60 := by have := HMidL.out.inv.parts_len; omega
        have HBa := box (hb11.alloc hs11 (.cells #[.slice (some ⟨gn, 0, none⟩) (SL - P) cn] 23))
        have bW := HM8.out.blk.after hb11
        have d4 := bW.cell (i := 4) rfl
        clear hown hgr HSo HB10 bW HIx p1 p2
        go_wp2_with (at_builtin; go_must (refine wpList_append_lies _ rfl _ _ 95 rfl base 23 j0 _ 1 24 Try.underlying95 hj0 hy0 hy1 hy2 rfl (by decide) _ _ _ rfl hT ⟨w11.heap.size, 0, none⟩ 1 1 [.slice (some ⟨gn, 0, none⟩) (SL - P) cn] rfl rfl (cells_new w11 [.slice (some ⟨gn, 0, none⟩) (SL - P) cn] 23) (by simp [Value.oneCell']) (by decide) (by unfold maxLen; omega) (by omega) (by simp; omega) (w11.heap.size + 1) (by simp) ?_))
        intro gg2 gcap2 w12 hown12 hgrow12 hat12 hlt12
        have HE := box (HM8.out.parted HF.out (by omega) HBa.out HNv.out (fun q hq => by simp [Value.ownBlock] at hq; omega) hgrow12 hown12)
        have hrow : ∀ q, pv2.ownBlock = some q → base ≤ q := fun q hq => (HM8.out.tab.lt q hq).1
        have bW := Blk.grown (HM8.out.blk.after HBa.out) hgrow12 (fun e => by have := hrow W e; have := HF.out.lt.2.2; omega)
        have f4 := bW.cell (i := 4) rfl
        have z4 := bW.frozen 4
        clear hown12 hgrow12 hat12 hlt12 hT bW hrow d4 HBa HNv hb11
        go_upto_region 17 with (fail)
        refine name_world _ HE.out ?_
        rintro W13 hM13
        have HM13 := box hM13
        have c3 := hM13.blk.cell (i := 3) rfl
        have z3 := hM13.blk.frozen 3
        rw [upd_other _ _ (by omega), HSv.out] at c3
        have p1 : decide ((P : Int) < 0) = false := decide_eq_false (by omega)
        have p2 : decide ((scap : Int) < (P : Int)) = false := decide_eq_false (by omega)
        have HCut := box (hM13.cut HF.out (m := P) (g := sg) (cap := scap) (by simp; omega) (by show P ≤ t.stack.length; rw [HSL.out]; omega) (by rw [upd_other _ _ (by omega), HSv.out]; show _ = Value.slice _ t.stack.length _; rw [HSL.out]))
        clear hM13 HE f4 z4
        go_wp2_with fail
        refine bodyPost_end (results_none rfl _ _ _) rfl ⟨rfl, TjM.leave t k, upd (upd v2 t.parts.length (.slice (some ⟨gn, 0, none⟩) (SL - P) cn)) 100 (.slice (some ⟨sg, 0, none⟩) P scap), .slice (some ⟨gg2, 0, none⟩) (t.parts.length + 1) gcap2, HFin.out, ?_⟩
        rw [HLv.out]
        exact HCut.out
      · have HLv : Box (TjM.leave t k = t) := ⟨by unfold TjM.leave; rw [if_neg hc]⟩
        have q0 : ((t.low k : Int) == (t.when k : Int)) = false := by simp; omega
        have q1 : ((t.low k : Int) = (t.when k : Int)) = False := by simp; omega
        clear hc
        generalize t.low k = lk at *
        generalize t.when k = wk at *
        go_wp2_with fail
        go_quiet (fail)
        go_wp2_with fail
        refine bodyPost_end (results_none rfl _ _ _) rfl ⟨rfl, t, v2, pv2, by have := HFin.out; rwa [HLv.out] at this, ?_⟩
        exact HM.out.drewN _
end Go.Proofs.Ytnnkejolfhhmlaa
