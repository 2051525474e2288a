/- SkewReads is proved for every input. -/
import Derived.Test.YtfmgncfikaefhaaLawKit
import Derived.Test.YtfmgncfikaefhaaSnapL
import Derived.Test.YtfmgncfikaefhaaSkP
import Derived.Test.YtfmgncfikaefhaaSkL
import Derived.Test.YtfmgncfikaefhaaOpsOpen
import Derived.Test.YtfmgncfikaefhaaOp
namespace Go.Proofs.Ytfmgncfikaefhaa
open Go.RowKit Go.Lib

instance : DecidableEq DidM := fun x y => by
  obtain ⟨a, b⟩ := x
  obtain ⟨a', b'⟩ := y
  exact decidable_of_iff (a = a' ∧ b = b') (by simp)
theorem did_eq (o o' : DidM) (w : World) : (Op.equalIn 10000 65 (.agg #[.bool o.ok, .int .i64 o.from_]) (.agg #[.bool o'.ok, .int .i64 o'.from_])).run Try.prog w = .ok (decide (o = o')) w := by
  obtain ⟨a0, a1⟩ := o
  obtain ⟨c0, c1⟩ := o'
  have hd : decide ((⟨a0, a1⟩ : DidM) = ⟨c0, c1⟩) = (a0 == c0 && a1 == c1) := by
    rw [Bool.eq_iff_iff]; simp
  rw [hd]
  dsimp only
  cases h0 : (a0 == c0) <;> cases h1 : (a1 == c1) <;> go_simp

def SkM.Left (l : List OpM) (w : World) (e : Ending) (w' : World) : Prop :=
  Below w.heap.size w w' ∧ ∃ (D : List DidM) (ao : Option Addr) (c1 : Nat) (c : Int), c = RunM.check l ∧ e = .returned (.tuple #[.slice ao D.length c1, .int .i64 c]) ∧ DidAt w' ao D ∧ (c ≠ 0 → D = []) ∧ (c = 0 → D = SkM.play l)
theorem skew_left (l : List OpM) (ao : Option Addr) (cap : Nat) (w : World) (h : OpsAt w ao l) (hf : RunM.Fits l) :
    Calls Try.prog 26 #[.slice ao l.length cap] w (SkM.Left l w) := by
  refine (skew_any l ao cap w h hf).mono ?_
  rintro e w' ⟨hb, ⟨hc, rfl⟩ | ⟨hc, v, rfl, hr⟩⟩
  · exact ⟨hb, [], none, 0, _, rfl, rfl, Or.inl rfl, fun _ => rfl, fun h => absurd h hc⟩
  · obtain ⟨ao, c1, rfl, h2⟩ := DidAt.own hr
    exact ⟨hb, _, ao, c1, 0, hc.symm, by rw [SkM.play_len], h2, fun h => absurd rfl h, fun _ => rfl⟩
def SkM.three : List OpM := [⟨0, 2, 1⟩, ⟨0, 3, 0⟩, ⟨1, 1, 1⟩]
theorem skew_three (b cap : Nat) (w : World) (h : Blk w b 62 [.int .i64 0, .int .i64 2, .int .i64 1, .int .i64 0, .int .i64 3, .int .i64 0, .int .i64 1, .int .i64 1, .int .i64 1]) :
    Calls Try.prog 26 #[.slice (some ⟨b, 0, none⟩) 3 cap] w fun e w' => Below w.heap.size w w' ∧ ∃ g c1, e = .returned (.tuple #[.slice (some ⟨g, 0, none⟩) 3 c1, .int .i64 0]) ∧ g < w'.heap.size ∧ w'.cell? ⟨g, 5, none⟩ = some (.int .i64 0) := by
  refine (skew_left SkM.three (some ⟨b, 0, none⟩) cap w (Or.inr ⟨b, 0, rfl, h.lt, ?_⟩) ⟨by decide, by decide⟩).mono ?_
  · intro k hk
    match k, hk with
    | 0, _ => exact ⟨h.cell rfl, h.cell rfl, h.cell rfl⟩
    | 1, _ => exact ⟨h.cell rfl, h.cell rfl, h.cell rfl⟩
    | 2, _ => exact ⟨h.cell rfl, h.cell rfl, h.cell rfl⟩
  · rintro e w' ⟨hb, D, ao, c1, c, hc, rfl, h1, _, h3⟩
    have : c = 0 := hc.trans (by decide)
    subst this
    have e4 : SkM.play SkM.three = [⟨true, -1⟩, ⟨true, -1⟩, ⟨true, 0⟩] := by decide
    obtain rfl : D = [⟨true, -1⟩, ⟨true, -1⟩, ⟨true, 0⟩] := (h3 rfl).trans e4
    obtain ⟨g, rfl, hg, hrow⟩ := h1.resolve_left (by simp)
    exact ⟨hb, g, c1, rfl, hg, (hrow 2 (by decide)).2⟩

set_option maxRecDepth 20000 in
set_option maxHeartbeats 8000000 in
theorem skewReads_calls (l : List OpM) (ao : Option Addr) (cap : Nat) (w : World) (h : OpsAt w ao l) (hf : RunM.Fits l) (_ : l.length ≤ cap) :
    Calls Try.prog 6 #[.slice ao l.length cap] w fun e w' => e = .returned (.bool true) ∧ Below w.heap.size w w' := by
  have H := box h; have Hf := box hf
  have hfl := hf.1
  clear h hf
  go_enter Try.func6, Try.ntmps6
  go_wp2_with fail
  refine (op_any _ _ _ _).mono ?_
  rintro e w1 ⟨rfl, hb1⟩
  have HB1 := box hb1; clear hb1
  go_wp2_with fail
  refine (op_any _ _ _ _).mono ?_
  rintro e w2 ⟨rfl, hb2⟩
  have HB2 := box (below_tr HB1.out hb2); clear hb2
  go_wp2_with fail
  refine (op_any _ _ _ _).mono ?_
  rintro e w3 ⟨rfl, hb3⟩
  have HB3 := box (below_tr HB2.out hb3); clear hb3 HB1 HB2
  go_wp2_with fail
  refine (skew_three w3.heap.size 3 _ (Blk.new w3 [.int .i64 0, .int .i64 2, .int .i64 1, .int .i64 0, .int .i64 3, .int .i64 0, .int .i64 1, .int .i64 1, .int .i64 1] _)).mono ?_
  rintro e w5 ⟨hb5, g, c1, rfl, hg, hd1⟩
  have HB5 := box (below_tr (HB3.out.alloc HB3.out.size _) hb5); clear hb5
  go_wp2_with fail
  refine (snap_left l ao cap _ (H.out.below HB5.out (Nat.le_refl _)) Hf.out).mono ?_
  rintro e w6 ⟨hb6, D, dao, c1', c, hc, rfl, hat, hn0, h0D⟩
  have HB6 := box (below_tr HB5.out hb6)
  have HC := box hc; have HAT := box hat; have HN := box hn0; have HD := box h0D
  clear hb6 hc hat hn0 h0D hd1
  go_wp2_with fail
  refine (skew_left l ao cap _ (H.out.below HB6.out (Nat.le_refl _)) Hf.out).mono ?_
  rintro e w7 ⟨hb7, E, eao, c2, c', hc', rfl, hat', hn0', h0E⟩
  have HB7 := box (below_tr HB6.out hb7)
  have HAT7 := box (HAT.out.below hb7 (Nat.le_refl _))
  have HE7 := box hat'; have HN' := box hn0'; have HD' := box h0E
  obtain rfl : c' = c := hc'.trans HC.out.symm
  clear hb7 hc' hat' hn0' h0E HAT
  by_cases h0 : c' = 0
  case neg =>
    have g1 : (c' == 0) = false := by simp [h0]
    have g2 : (c' != 0) = true := by simp [h0]
    have g3 : (c' == c') = true := by simp
    obtain rfl := HN.out h0
    obtain rfl := HN'.out h0
    clear h0
    go_wp2_with fail
    go_ret
    exact ⟨by simp, HB7.out⟩
  subst h0
  have HOK := box (RunM.check_ok HC.out.symm)
  obtain rfl := HD.out rfl
  obtain rfl := HD'.out rfl
  have hl200 := HOK.out.1
  clear HN HD HN' HD'
  have hDl : (SnapM.play l).length = l.length := SnapM.play_len l
  have hEl : (SkM.play l).length = l.length := SkM.play_len l
  have HFirst : Box (∀ i (h0 : i < l.length) (h1 : i < (SnapM.play l).length) (h2 : i < (SkM.play l).length), (∀ j (h1 : j < (SnapM.play l).length) (h2 : j < (SkM.play l).length), j < i → (SnapM.play l)[j] = (SkM.play l)[j]) → (SnapM.play l)[i] ≠ (SkM.play l)[i] → l[i].kind = 3 ∧ (SnapM.play l)[i].ok = true ∧ (SkM.play l)[i].ok = false) :=
    ⟨fun i h0 h1 h2 hb hne => SkM.first (SkM.rel l) HOK.out.2.1 HOK.out.2.2 i h0 h1 h2 hb hne⟩
  generalize SnapM.play l = D at *
  generalize SkM.play l = E at *
  rw [hDl, hEl]
  have HDl := box hDl
  have HEl := box hEl
  clear hDl hEl
  go_wp2_with fail
  go_loopw [67] (fun t67 wr => ∃ i : Nat, i ≤ l.length ∧ t67 = .int .i64 (i : Int) ∧ Box (∀ j (h1 : j < D.length) (h2 : j < E.length), j < i → D[j] = E[j]) ∧ Box (Below w7.heap.size w7 wr)) (fun t67 _ => l.length - (intOf t67).toNat)
  case atStart => exact ⟨0, Nat.zero_le _, rfl, ⟨fun j _ _ h => by omega⟩, ⟨Below.refl _ _⟩⟩
  case round =>
    obtain ⟨i, hi, rfl, Hall, Hb⟩ := hrel
    have HBw := box (below_tr HB7.out Hb.out)
    by_cases hlt : i < l.length
    case neg =>
      go_wp2_with fail
      go_ret
      exact ⟨by simp, HBw.out⟩
    have h1 : i < D.length := by rw [HDl.out]; exact hlt
    have h2 : i < E.length := by rw [HEl.out]; exact hlt
    obtain ⟨b, off, rfl, hb, hrow⟩ := ((H.out.below HBw.out (Nat.le_refl _)).resolve_left (by intro h; rw [h] at hlt; simp at hlt))
    obtain ⟨hc0, hc1, hc2⟩ := hrow i hlt
    obtain ⟨db, rfl, hdb, hdrow⟩ := ((HAT7.out.below Hb.out (Nat.le_refl _)).resolve_left (by intro h; rw [h] at h1; simp at h1))
    obtain ⟨eb, rfl, heb, herow⟩ := ((HE7.out.below Hb.out (Nat.le_refl _)).resolve_left (by intro h; rw [h] at h2; simp at h2))
    obtain ⟨hd0, hd1⟩ := hdrow i h1
    obtain ⟨he0, he1⟩ := herow i h2
    have HF := box (HFirst.out i hlt h1 h2 Hall.out)
    have HNx : Box (D[i] = E[i] → ∀ j (h1 : j < D.length) (h2 : j < E.length), j < i + 1 → D[j] = E[j]) := ⟨fun h j h3 h4 h5 => by
      by_cases e : j = i
      · subst e; exact h
      · exact Hall.out j h3 h4 (by omega)⟩
    have HDn := box (fun n => below_dN Hb.out n)
    have HDw := box (fun n => below_dN HBw.out n)
    have HQ := did_eq D[i] E[i]
    clear hrow hdrow herow hc0 hc2
    generalize D[i] = d at *
    generalize E[i] = e at *
    generalize l[i].kind = kk at *
    clear h1 h2
    by_cases hde : d = e
    · have he := box (HNx.out hde)
      rw [decide_eq_true hde] at HQ
      clear hde HNx HF
      obtain ⟨d0, d1⟩ := d
      obtain ⟨e0, e1⟩ := e
      simp only at hd0 hd1 he0 he1 HQ
      go_upto_region 11 with (fail)
      go_quiet (fail)
      go_wp2_with fail
      go_roundw
      case rel => exact ⟨i + 1, hlt, by go_num, ⟨he.out⟩, ⟨HDn.out _⟩⟩
      case measure => simp [intOf]; omega
    · obtain ⟨rfl, f1, f2⟩ := HF.out hde
      rw [decide_eq_false hde] at HQ
      clear hde HNx HF
      obtain ⟨d0, d1⟩ := d
      obtain ⟨e0, e1⟩ := e
      simp only at hd0 hd1 he0 he1 HQ f1 f2
      subst f1 f2
      go_upto_region 11 with (fail)
      go_quiet (fail)
      go_wp2_with fail
      go_ret
      exact ⟨by simp, HDw.out _⟩
namespace lawSkewReads
open Go.ChangeShapes Go.WideShapes Go.ChangeAt Go.RowKit Go.ChangeMaps

set_option maxRecDepth 100000 in
theorem lifted (os : Os) (started : os.Started) (H : Type) (enc : TypeId × Value → H) :
    ReturnsInHanded {} Try.checked os 6 .any (Rows.skewReadsSpec.pre6 enc Try.prog Try.f6 [] false) (Rows.skewReadsSpec.post enc Try.prog Try.f6 false true false false) := by
  refine LawKit.law_lifted started (by kernel_rfl) Try.func6 rfl
    (fun ds h => by
      match ds, h with
      | [_], _ => rfl)
    rfl Try.underlying4 (by intro t ht; exact of_decide_eq_true (p := Try.prog.readableRec t = true ∧ t < Try.prog.types.size) (by revert t ht; decide +kernel))
    (ChangeSpec.witness6 (enc := enc) (C := Try.checked) false ⟨#[], #[.slice none 0 0], []⟩ 8 (by kernel_rfl) (by kernel_rfl) (by kernel_rfl) (by kernel_rfl)) ?_
  intro W base args ds ps hval hA hsz hlt hfz
  have hA' := hA
  rw [Try.params6] at hA hval
  obtain ⟨v0, vs0, d0, ds0, p0, q0, hargs, rfl, rfl, h0, r0⟩ := trodAll_cons hA
  obtain ⟨rfl, rfl, rfl⟩ := trodAll_nil r0
  obtain rfl : args = #[v0] := by cases args; simp_all
  obtain ⟨ao, cap, ls, rfl, hnil, hat, hfits, hlc, _⟩ := open_ops (hval 0 _ _ rfl rfl) h0 (Open.weights_bound hsz (j := 0) (by rw [Try.params6]; rfl) rfl)
  refine (skewReads_calls ls ao cap W hat hfits hlc).mono ?_
  rintro e W' ⟨rfl, hb⟩
  exact ⟨rfl, hb⟩

theorem proved : Rows.SkewReadsSaid :=
  OpenClaim.holds_of_wide 6 Try.f6 rfl rfl rfl rfl rfl rfl rfl ⟨rfl, rfl, rfl, rfl, rfl⟩ rfl rfl rfl rfl rfl (by kernel_rfl) Try.func6 (by kernel_rfl)
    (of_decide_eq_true (by kernel_rfl)) (by unfold Func.isWrapper; first | (rw [if_pos (by decide +kernel)]; kernel_rfl) | (rw [if_neg (by decide +kernel)]; exact ⟨rfl, rfl⟩))
    (fun os started H enc _ => lifted os started H enc)
end lawSkewReads
end Go.Proofs.Ytfmgncfikaefhaa
