/- skew's clash: what it tells. -/
import Derived.Test.YtgkclgmekbgjmaaSkB
import Derived.Deep.DeepMust
namespace Go.Proofs.Ytgkclgmekbgjmaa
open Go.RowKit Go.Lib

/-- Those that committed, but x. -/
def SkM.olds (st : SkSt) (x j : Nat) : List Nat := (List.range j).filter fun y => decide (y ≠ x) && st.dn y
def SkM.ints (l : List Nat) : List Int := l.map fun (a : Nat) => (a : Int)
def SkM.inn (st : SkSt) (A : List Nat) (b : Nat) : Bool := A.any fun a => decide (a ≠ b) && SkM.skips st a b
def SkM.out (st : SkSt) (A : List Nat) (b : Nat) : Bool := A.any fun a => decide (a ≠ b) && SkM.skips st b a
def SkM.pivot (st : SkSt) (A : List Nat) : Bool := A.any fun b => SkM.inn st A b && SkM.out st A b
def SkM.clash (st : SkSt) (x : Nat) : Bool := SkM.ww st x || SkM.pivot st (SkM.olds st x 12 ++ [x])

theorem SkM.ints_len (l : List Nat) : (SkM.ints l).length = l.length := by simp [SkM.ints]
theorem SkM.ints_append (l m : List Nat) : SkM.ints (l ++ m) = SkM.ints l ++ SkM.ints m := by simp [SkM.ints]
theorem SkM.olds_succ (st : SkSt) (x j : Nat) : SkM.olds st x (j + 1) = if (decide (j ≠ x) && st.dn j) = true then SkM.olds st x j ++ [j] else SkM.olds st x j := by
  unfold SkM.olds
  rw [List.range_succ, List.filter_append]
  simp only [List.filter_cons, List.filter_nil]
  split <;> simp
theorem SkM.olds_len (st : SkSt) (x j : Nat) : (SkM.olds st x j).length ≤ j := by
  have := List.length_filter_le (fun y => decide (y ≠ x) && st.dn y) (List.range j)
  rw [List.length_range] at this
  exact this
theorem SkM.olds_lt {st : SkSt} {x j a : Nat} (h : a ∈ SkM.olds st x j) : a < j := by
  have := (List.mem_filter.1 h).1
  exact List.mem_range.1 this
theorem any_range_succ (p : Nat → Bool) (j : Nat) : (List.range (j + 1)).any p = ((List.range j).any p || p j) := by
  rw [List.range_succ, List.any_append]; simp
theorem any_range_of {p : Nat → Bool} {j n : Nat} (hj : j < n) (h : p j = true) : (List.range n).any p = true := List.any_eq_true.2 ⟨j, List.mem_range.2 hj, h⟩

theorem any_take_or {α : Type} {l : List α} {p : α → Bool} {k : Nat} (hk : k < l.length) : (l.take (k + 1)).any p = ((l.take k).any p || p l[k]) := by
  rw [List.take_succ_eq_append_getElem hk, List.any_append]; simp
theorem ints_get {l : List Nat} {k : Nat} (hk : k < l.length) (h2 : k < (SkM.ints l).length) : (SkM.ints l)[k] = (l[k] : Int) := by simp [SkM.ints]
theorem SkM.infoI : (Try.prog.info? 3).map (fun i => (i.zero, i.size, i.bytes)) = some (some (.int .i64 0), 1, 8) := by kernel_rfl

section
variable {w wa : World} {N : Nat} {st : SkSt} {v : Nat → Value}
set_option maxRecDepth 20000 in
set_option maxHeartbeats 8000000 in
theorem clash_any (h : SkM.SW w N st v wa) {x : Nat} (hx : x < 12) (hn : ∀ r, r < 24 → (st.rows r).length ≤ 9000000000000000000) :
    Calls Try.prog 107 #[.pointer (some ⟨N, 0, none⟩), .int .i64 (x : Int)] wa fun e w' => e = .returned (.bool (SkM.clash st x)) ∧ Below wa.heap.size wa w' := by
  obtain ⟨i0, hi0, hz0, hz1, hz2⟩ := info_parts SkM.infoI
  have H := box h; have Hn := box hn
  have hlN := h.b0.lt
  have HCL := box (show SkM.clash st x = (SkM.ww st x || SkM.pivot st (SkM.olds st x 12 ++ [x])) from rfl)
  clear h hn
  go_enter Try.func107, Try.ntmps107
  go_wp2_with fail
  go_loopw [6, 20] (fun t6 t20 wr => ∃ j : Nat, j ≤ 12 ∧ t20 = .int .i64 (j : Int) ∧ Box ((List.range j).any (SkM.wwAt st x) = false) ∧ Box (wr.ownsRow wa.heap.size 3 1 t6 (SkM.olds st x j).length (intVals (SkM.ints (SkM.olds st x j)))) ∧ Box (Below wa.heap.size wa wr)) (fun _ t20 _ => 12 - (intOf t20).toNat)
  case atStart => exact ⟨0, by omega, rfl, ⟨rfl⟩, ⟨by simpa [SkM.olds, SkM.ints, intVals] using World.ownsRow_nil _ _ _ _⟩, ⟨Below.refl _ _⟩⟩
  case round =>
    obtain ⟨j, hj, rfl, Hww, HO, Hb⟩ := hrel
    have HWr := box (H.out.after Hb.out)
    by_cases hlt : j < 12
    case neg =>
      have hj12 : j = 12 := by omega
      subst hj12
      have HW0 : Box (SkM.ww st x = false) := ⟨Hww.out⟩
      have hown2 := HO.out.alloc (.cells #[.int .i64 (x : Int)] 3)
      have hl := SkM.olds_len st x 12
      have hs1 := Hb.out.size
      go_wp2_with (at_builtin; go_must (refine wpList_append_own _ rfl _ _ 31 rfl wa.heap.size 3 i0 _ 1 8 Try.underlying31 hi0 hz0 hz1 hz2 rfl (by decide) _ _ _ rfl hown2 ⟨wr.heap.size, 0, none⟩ 1 1 [.int .i64 (x : Int)] rfl rfl (cells_new wr [.int .i64 (x : Int)] 3) (by simp [Value.oneCell']) (by unfold maxLen; omega) (by omega) (by simp; omega) ?_))
      intro v' w9 hown3 hgrow _
      have hb9 := ((Hb.out.alloc hs1 (.cells #[.int .i64 (x : Int)] 3)).grown hgrow (by simp; omega) (fun g hg => (HO.out.lt g hg).1))
      have HB9 := box hb9
      have HW9 := box (H.out.after hb9)
      obtain ⟨A, HA⟩ : ∃ A, Box (SkM.olds st x 12 ++ [x] = A) := ⟨_, ⟨rfl⟩⟩
      have hAl : A.length ≤ 13 := by rw [← HA.out, List.length_append, List.length_singleton]; omega
      have HAx : Box (∀ a ∈ A, a < 12) := ⟨fun a ha => by
        rw [← HA.out] at ha
        rcases List.mem_append.1 ha with ha | ha
        · exact SkM.olds_lt ha
        · simp at ha; omega⟩
      rw [HA.out] at HCL
      have ho9 : w9.ownsRow wa.heap.size 3 1 v' A.length (intVals (SkM.ints A)) := by rw [← HA.out, SkM.ints_append, intVals_append, List.length_append]; exact hown3
      obtain ⟨so, sc, rfl, hln, hat, hz, hz2⟩ := IntsAt.own ho9
      clear hln hz hz2
      rw [SkM.ints_len]
      have HAT := box hat
      clear hown2 hown3 hgrow hl ho9 hat hb9 HA Hww HO Hb
      go_wp2_with fail
      go_loopw [59] (fun t59 wr => ∃ i : Nat, i ≤ A.length ∧ t59 = .int .i64 (i : Int) ∧ Box ((A.take i).any (fun b => SkM.inn st A b && SkM.out st A b) = false) ∧ Box (Below wa.heap.size wa wr) ∧ Box (Below w9.heap.size w9 wr)) (fun t59 _ => A.length - (intOf t59).toNat)
      case atStart => exact ⟨0, Nat.zero_le _, rfl, ⟨rfl⟩, HB9, ⟨Below.refl _ _⟩⟩
      case round =>
        obtain ⟨i, hi, rfl, Hp, Hbr, Hbr9⟩ := hrel
        by_cases hltA : i < A.length
        case neg =>
          have hE : A.take i = A := List.take_of_length_le (by omega)
          have HF : Box (SkM.clash st x = false) := ⟨by
            have := Hp.out
            rw [hE] at this
            rw [HCL.out, HW0.out, show SkM.pivot st A = false from this]; rfl⟩
          clear hE
          go_wp2_with fail
          go_ret
          exact ⟨by rw [HF.out]; rfl, Hbr.out⟩
        have hb12 := HAx.out _ (List.getElem_mem hltA)
        have HPn := box (any_take_or (p := fun b => SkM.inn st A b && SkM.out st A b) hltA)
        have HPt := box (fun h => any_of_at (p := fun b => SkM.inn st A b && SkM.out st A b) hltA h)
        have HATi : Box (∀ wx, Below w9.heap.size w9 wx → ∀ k (hk : k < A.length), ∃ b off, so = some ⟨b, off, none⟩ ∧ b < wx.heap.size ∧ wx.cell? ⟨b, off + k, none⟩ = some (.int .i64 (A[k] : Int))) := ⟨fun wx hx k hk => by
          have hk2 : k < (SkM.ints A).length := by rw [SkM.ints_len]; exact hk
          obtain ⟨b, off, h1, h2, h3⟩ := (HAT.out.below hx (Nat.le_refl _)).resolve_left (by intro h; rw [h] at hk2; simp at hk2)
          exact ⟨b, off, h1, h2, by rw [h3 k hk2, ints_get hk hk2]⟩⟩
        obtain ⟨b0, off0, rfl, hbl, hc0⟩ := HATi.out wr Hbr9.out i hltA
        generalize A[i] = b at *
        have HIN := box (show SkM.inn st A b = A.any fun a => decide (a ≠ b) && SkM.skips st a b from rfl)
        have HOUT := box (show SkM.out st A b = A.any fun a => decide (a ≠ b) && SkM.skips st b a from rfl)
        go_wp2_with fail
        go_loopw [11, 12, 65] (fun t11 t12 t65 wx => ∃ k : Nat, k ≤ A.length ∧ t65 = .int .i64 (k : Int) ∧ t11 = .bool ((A.take k).any fun a => decide (a ≠ b) && SkM.skips st a b) ∧ t12 = .bool ((A.take k).any fun a => decide (a ≠ b) && SkM.skips st b a) ∧ Box (Below wa.heap.size wa wx) ∧ Box (Below w9.heap.size w9 wx)) (fun _ _ t65 _ => A.length - (intOf t65).toNat)
        case atStart => exact ⟨0, Nat.zero_le _, rfl, rfl, rfl, Hbr, Hbr9⟩
        case round =>
          obtain ⟨k, hk, rfl, rfl, rfl, Hbx, Hbx9⟩ := hrel
          by_cases hltk : k < A.length
          case neg =>
            have hE : A.take k = A := List.take_of_length_le (by omega)
            rw [hE, ← HIN.out, ← HOUT.out]
            cases hin : SkM.inn st A b with
            | false => 
              have HN : Box ((A.take (i + 1)).any (fun b => SkM.inn st A b && SkM.out st A b) = false) := ⟨by rw [HPn.out, Hp.out, hin]; rfl⟩
              clear hin hE
              generalize SkM.out st A b = q at *
              go_wp2_with fail
              exact ⟨⟨i + 1, hltA, by go_num, HN, Hbx, Hbx9⟩, by simp [intOf]; omega⟩
            | true =>
              cases hout : SkM.out st A b with
              | false =>
                have HN : Box ((A.take (i + 1)).any (fun b => SkM.inn st A b && SkM.out st A b) = false) := ⟨by rw [HPn.out, Hp.out, hin, hout]; rfl⟩
                clear hin hout hE
                go_wp2_with fail
                exact ⟨⟨i + 1, hltA, by go_num, HN, Hbx, Hbx9⟩, by simp [intOf]; omega⟩
              | true =>
                have HF : Box (SkM.clash st x = true) := ⟨by
                  rw [HCL.out, show SkM.pivot st A = true from HPt.out (by rw [hin, hout]; rfl)]; simp⟩
                clear hin hout hE
                go_wp2_with fail
                go_ret
                exact ⟨by rw [HF.out]; rfl, Hbx.out⟩
          have ha12 := HAx.out _ (List.getElem_mem hltk)
          obtain ⟨b1, off1, hb1, hbl1, hc1⟩ := HATi.out wr Hbx9.out k hltk
          simp only [Option.some.injEq, Addr.mk.injEq, and_true] at hb1
          obtain ⟨rfl, rfl⟩ := hb1
          have HI := box (any_take_or (p := fun a => decide (a ≠ b) && SkM.skips st a b) hltk)
          have HO := box (any_take_or (p := fun a => decide (a ≠ b) && SkM.skips st b a) hltk)
          generalize A[k] = a at *
          obtain ⟨p1, HP1⟩ : ∃ q, Box (((A.take k).any fun a => decide (a ≠ b) && SkM.skips st a b) = q) := ⟨_, ⟨rfl⟩⟩
          obtain ⟨p2, HP2⟩ : ∃ q, Box (((A.take k).any fun a => decide (a ≠ b) && SkM.skips st b a) = q) := ⟨_, ⟨rfl⟩⟩
          rw [HP1.out] at HI ⊢
          rw [HP2.out] at HO ⊢
          clear HP1 HP2 HPn HPt HIN HOUT
          have HWx := box (HW9.out.after Hbx9.out)
          have hxs := Hbx.out.size
          have hx9 := Hbx9.out.size
          go_upto_region 20 with (fail)
          go_cut [11] (fun s11 wx => s11 = .bool ((A.take (k + 1)).any fun a => decide (a ≠ b) && SkM.skips st a b) ∧ Below wr.heap.size wr wx)
          case first =>
            cases p1 with
            | true =>
              go_quiet (fail)
              go_wp2_with fail
              go_meet
              exact ⟨by rw [HI.out]; rfl, below_dN (Below.refl _ _) _⟩
            | false =>
              by_cases hab : a = b
              · have q1 : ((a : Int) != (b : Int)) = false := by rw [hab]; simp
                have HQ : Box (decide (a ≠ b) = false) := ⟨decide_eq_false (by simpa using hab)⟩
                clear hab
                go_quiet (fail)
                go_wp2_with fail
                go_meet
                exact ⟨by rw [HI.out, HQ.out]; rfl, below_dN (Below.refl _ _) _⟩
              · have q1 : ((a : Int) != (b : Int)) = true := by simpa using (by omega : ¬ (a : Int) = (b : Int))
                have HQ : Box (decide (a ≠ b) = true) := ⟨decide_eq_true hab⟩
                clear hab
                obtain ⟨r, HR⟩ : ∃ r, Box (SkM.skips st a b = r) := ⟨_, ⟨rfl⟩⟩
                rw [HQ.out, HR.out] at HI
                have ia0 : (0 : Int) ≤ (a : Int) := by omega
                have ib0 : (0 : Int) ≤ (b : Int) := by omega
                have ia1 : (a : Int) < 12 := by omega
                have ib1 : (b : Int) < 12 := by omega
                go_region_held3 (fun _ => True) (trivial) (first | (go_at_call 146; refine (skips_any HWx.out.drew ha12 hb12 Hn.out).mono ?_; rintro e w5 ⟨rfl, hb5⟩; rw [HR.out]; have HB5 := box hb5; clear hb5))
                go_step
                go_step
                go_meet
                exact ⟨by rw [HI.out]; rfl, below_tr (Below.refl _ wr).drew HB5.out⟩
          case rest =>
          obtain ⟨rfl, hbw⟩ := hcut
          obtain ⟨W2, HW2⟩ : ∃ W, Box (wc = W) := ⟨_, ⟨rfl⟩⟩
          rw [HW2.out] at hbw ⊢
          have HBy := box (Hbx.out.trans (hbw.mono hxs))
          have HBy9 := box (Hbx9.out.trans (hbw.mono hx9))
          have HWy := box (HW9.out.after HBy9.out)
          rw [HI.out]
          obtain ⟨p3, HP3⟩ : ∃ p3, Box ((p1 || decide (a ≠ b) && SkM.skips st a b) = p3) := ⟨_, ⟨rfl⟩⟩
          rw [HP3.out] at HI ⊢
          clear hbw hc1 HWx
          go_upto_region 21 with (fail)
          have HFin : Box (∀ wx, Below W2.heap.size W2 wx → Below wa.heap.size wa wx ∧ Below w9.heap.size w9 wx) := ⟨fun wx h => ⟨HBy.out.trans (h.mono HBy.out.size), HBy9.out.trans (h.mono HBy9.out.size)⟩⟩
          obtain ⟨p4, HP4⟩ : ∃ p4, Box (((A.take (k + 1)).any fun a => decide (a ≠ b) && SkM.skips st b a) = p4) := ⟨_, ⟨rfl⟩⟩
          rw [HP4.out] at HO
          cases p2 with
          | true =>
            go_quiet (fail)
            go_wp2_with fail
            exact ⟨⟨k + 1, hltk, by go_num, by rw [HI.out], by rw [HP4.out, HO.out]; rfl, ⟨(HFin.out _ (below_dN (Below.refl _ _) _)).1⟩, ⟨(HFin.out _ (below_dN (Below.refl _ _) _)).2⟩⟩, by simp [intOf]; omega⟩
          | false =>
            by_cases hab : a = b
            · have q1 : ((a : Int) != (b : Int)) = false := by rw [hab]; simp
              have HQ : Box (decide (a ≠ b) = false) := ⟨decide_eq_false (by simpa using hab)⟩
              clear hab
              go_quiet (fail)
              go_wp2_with fail
              exact ⟨⟨k + 1, hltk, by go_num, by rw [HI.out], by rw [HP4.out, HO.out, HQ.out]; rfl, ⟨(HFin.out _ (below_dN (Below.refl _ _) _)).1⟩, ⟨(HFin.out _ (below_dN (Below.refl _ _) _)).2⟩⟩, by simp [intOf]; omega⟩
            · have q1 : ((a : Int) != (b : Int)) = true := by simpa using (by omega : ¬ (a : Int) = (b : Int))
              have HQ : Box (decide (a ≠ b) = true) := ⟨decide_eq_true hab⟩
              clear hab
              obtain ⟨r, HR⟩ : ∃ r, Box (SkM.skips st b a = r) := ⟨_, ⟨rfl⟩⟩
              rw [HQ.out, HR.out] at HO
              have HE4 : Box (p4 = r) := ⟨by rw [HO.out]; simp⟩
              have ia0 : (0 : Int) ≤ (a : Int) := by omega
              have ib0 : (0 : Int) ≤ (b : Int) := by omega
              have ia1 : (a : Int) < 12 := by omega
              have ib1 : (b : Int) < 12 := by omega
              go_region_held3 (fun _ => True) (trivial) (first | (go_at_call 146; refine (skips_any HWy.out.drew hb12 ha12 Hn.out).mono ?_; rintro e w5 ⟨rfl, hb5⟩; rw [HR.out]; have HB5 := box (HFin.out w5 (below_tr (Below.refl _ W2).drew hb5)); clear hb5))
              go_step
              go_wp2_with fail
              exact ⟨⟨k + 1, hltk, by go_num, by rw [HI.out], by rw [HP4.out, HE4.out], ⟨HB5.out.1⟩, ⟨HB5.out.2⟩⟩, by simp [intOf]; omega⟩
    have HS := box (any_range_succ (SkM.wwAt st x) j)
    have HT := box (fun h => any_range_of (p := SkM.wwAt st x) hlt h)
    have HOs := box (SkM.olds_succ st x j)
    have HA := box (show SkM.wwAt st x j = ((decide (j ≠ x) && st.dn j) && (SkM.beside st x j && (st.rows (12 + x)).any (fun it => decide (it ∈ st.rows (12 + j))))) from rfl)
    have hsr := Hb.out.size
    go_upto_region 7 with (fail)
    refine name_world (fun W => SkM.SW w N st v W ∧ Below wa.heap.size wa W ∧ Blk W wr.heap.size 186 [.pointer (some ⟨N, j * 6, none⟩)] ∧ W.ownsRow wa.heap.size 3 1 u6 (SkM.olds st x j).length (intVals (SkM.ints (SkM.olds st x j)))) ⟨HWr.out.alloc _, Hb.out.alloc hsr _, Blk.new _ _ _, HO.out.alloc _⟩ ?_
    rintro W ⟨hW, hB, hK, hO⟩
    obtain ⟨C, HE⟩ : ∃ C, Box (wr.heap.size = C) := ⟨_, ⟨rfl⟩⟩
    rw [HE.out] at hK ⊢
    have HW := box hW; have HB := box hB; have HK := box hK; have HOW := box hO
    have hk0 := hK.cell (i := 0) rfl
    have hcl := hW.cell (i := j * 6 + 1) (by omega)
    rw [SkM.cell_dn j hlt] at hcl
    clear hW hB hK hO HWr HO Hb
    by_cases hjx : j = x
    case pos =>
      have q1 : ((j : Int) != (x : Int)) = false := by rw [hjx]; simp
      have HE : Box ((List.range (j + 1)).any (SkM.wwAt st x) = false ∧ SkM.olds st x (j + 1) = SkM.olds st x j) := ⟨by
        rw [HS.out, HA.out, HOs.out, Hww.out, decide_eq_false (by simpa using hjx)]; simp⟩
      clear hjx hcl
      go_wp2_with fail
      go_roundw
      case rel => exact ⟨j + 1, hlt, by go_num, ⟨HE.out.1⟩, ⟨by rw [HE.out.2]; exact HOW.out⟩, HB⟩
      case measure => simp [intOf]; omega
    have q1 : ((j : Int) != (x : Int)) = true := by simpa using (by omega : ¬ (j : Int) = (x : Int))
    have q2 : decide (j ≠ x) = true := decide_eq_true hjx
    rw [q2, Bool.true_and] at HA HOs
    cases hdn : st.dn j with
    | false =>
      rw [hdn] at HA HOs hcl
      have HE : Box ((List.range (j + 1)).any (SkM.wwAt st x) = false ∧ SkM.olds st x (j + 1) = SkM.olds st x j) := ⟨by
        rw [HS.out, HA.out, HOs.out, Hww.out]; simp⟩
      clear hjx hdn q2
      go_wp2_with fail
      go_roundw
      case rel => exact ⟨j + 1, hlt, by go_num, ⟨HE.out.1⟩, ⟨by rw [HE.out.2]; exact HOW.out⟩, HB⟩
      case measure => simp [intOf]; omega
    | true =>
      rw [hdn] at HA HOs hcl
      clear hjx hdn q2
      go_wp2_with fail
      refine (beside_any HW.out hx hlt).mono ?_
      rintro e w1 ⟨rfl, hb1⟩
      have HW1 := box (HW.out.after hb1)
      have HB1 := box (HB.out.trans (hb1.mono HB.out.size))
      have HK1 := box (HK.out.after hb1)
      have HO1 := box (ownsRow_below HOW.out hb1)
      clear hb1 hk0 hcl HW HB HK HOW
      obtain ⟨bs, HBS⟩ : ∃ bs, Box (SkM.beside st x j = bs) := ⟨_, ⟨rfl⟩⟩
      rw [HBS.out] at HA ⊢
      obtain ⟨ao, cap, _, hat, hcell, _⟩ := HW1.out.row (r := 12 + x) (by omega)
      rw [SkM.place_wr hx] at hcell
      have hk0 := HK1.out.cell (i := 0) rfl
      have HC := box (containsFunc_ints (st.rows (12 + x)) ao cap 145 #[.pointer (some ⟨C, 0, none⟩)] _ _ hat (Hn.out _ (by omega)) (clash_tells HW1.out (C := C) hlt (Hn.out _ (by omega)) hk0) (enters_fn Try.func145 (by kernel_rfl) rfl))
      clear hat
      cases bs with
      | false =>
        have HE2 : Box ((List.range (j + 1)).any (SkM.wwAt st x) = false ∧ SkM.olds st x (j + 1) = SkM.olds st x j ++ [j]) := ⟨by
          rw [HS.out, HA.out, HOs.out, Hww.out]; simp⟩
        have hown2 := HO1.out.alloc (.cells #[.int .i64 (j : Int)] 3)
        have hl := SkM.olds_len st x j
        have hs1 := HB1.out.size
        clear hk0 hcell
        go_wp2_with (at_builtin; go_must (refine wpList_append_own _ rfl _ _ 31 rfl wa.heap.size 3 i0 _ 1 8 Try.underlying31 hi0 hz0 hz1 hz2 rfl (by decide) _ _ _ rfl hown2 ⟨w1.heap.size, 0, none⟩ 1 1 [.int .i64 (j : Int)] rfl rfl (cells_new w1 [.int .i64 (j : Int)] 3) (by simp [Value.oneCell']) (by unfold maxLen; omega) (by omega) (by simp; omega) ?_))
        intro v' w9 hown3 hgrow _
        have HB9 := box ((HB1.out.alloc hs1 (.cells #[.int .i64 (j : Int)] 3)).grown hgrow (by simp; omega) (fun g hg => (HO1.out.lt g hg).1))
        have HO9 : Box (w9.ownsRow wa.heap.size 3 1 v' (SkM.olds st x (j + 1)).length (intVals (SkM.ints (SkM.olds st x (j + 1))))) := ⟨by rw [HE2.out.2, SkM.ints_append, intVals_append, List.length_append]; exact hown3⟩
        clear hown2 hown3 hgrow hl
        go_wp2_with fail
        go_roundw
        case rel => exact ⟨j + 1, hlt, by go_num, ⟨HE2.out.1⟩, HO9, HB9⟩
        case measure => simp [intOf]; omega
      | true =>
      go_wp2_with fail
      refine HC.out.mono ?_
      rintro e w' ⟨rfl, rfl⟩
      obtain ⟨y, HY⟩ : ∃ y, Box (((st.rows (12 + x)).any fun k => decide (k ∈ st.rows (12 + j))) = y) := ⟨_, ⟨rfl⟩⟩
      rw [HY.out] at HA ⊢
      cases y with
      | true =>
        go_wp2_with fail
        go_ret
        exact ⟨by rw [HCL.out, show SkM.ww st x = true from HT.out (by rw [HA.out]; rfl)]; rfl, HB1.out⟩
      | false =>
        have HE2 : Box ((List.range (j + 1)).any (SkM.wwAt st x) = false ∧ SkM.olds st x (j + 1) = SkM.olds st x j ++ [j]) := ⟨by
          rw [HS.out, HA.out, HOs.out, Hww.out]; simp⟩
        have hown2 := HO1.out.alloc (.cells #[.int .i64 (j : Int)] 3)
        have hl := SkM.olds_len st x j
        have hs1 := HB1.out.size
        clear hk0 hcell
        go_wp2_with (at_builtin; go_must (refine wpList_append_own _ rfl _ _ 31 rfl wa.heap.size 3 i0 _ 1 8 Try.underlying31 hi0 hz0 hz1 hz2 rfl (by decide) _ _ _ rfl hown2 ⟨w1.heap.size, 0, none⟩ 1 1 [.int .i64 (j : Int)] rfl rfl (cells_new w1 [.int .i64 (j : Int)] 3) (by simp [Value.oneCell']) (by unfold maxLen; omega) (by omega) (by simp; omega) ?_))
        intro v' w9 hown3 hgrow _
        have HB9 := box ((HB1.out.alloc hs1 (.cells #[.int .i64 (j : Int)] 3)).grown hgrow (by simp; omega) (fun g hg => (HO1.out.lt g hg).1))
        have HO9 : Box (w9.ownsRow wa.heap.size 3 1 v' (SkM.olds st x (j + 1)).length (intVals (SkM.ints (SkM.olds st x (j + 1))))) := ⟨by rw [HE2.out.2, SkM.ints_append, intVals_append, List.length_append]; exact hown3⟩
        clear hown2 hown3 hgrow hl
        go_wp2_with fail
        go_roundw
        case rel => exact ⟨j + 1, hlt, by go_num, ⟨HE2.out.1⟩, HO9, HB9⟩
        case measure => simp [intOf]; omega
end
end Go.Proofs.Ytgkclgmekbgjmaa
