/- snap.Play: what it computes. -/
import Derived.Test.YtfmgncfikaefhaaSnapT
import Derived.Test.YtfmgncfikaefhaaRunCheck
import Derived.Test.YtfmgncfikaefhaaStampM
namespace Go.Proofs.Ytfmgncfikaefhaa
open Go.RowKit Go.Lib

theorem Try.infoDid : (Try.prog.info? 65).map (fun i => (i.zero, i.size, i.bytes)) = some (some (.agg #[.bool false, .int .i64 0]), 2, 16) := by kernel_rfl
def didVals (l : List DidM) : List Value := l.flatMap fun d => [.bool d.ok, .int .i64 d.from_]
theorem didVals_len (l : List DidM) : (didVals l).length = l.length * 2 := by
  induction l with
  | nil => rfl
  | cons v r ih => simp only [didVals, List.flatMap_cons, List.length_append, List.length_cons, List.length_nil] at ih ⊢; omega
theorem didVals_append (a b : List DidM) : didVals (a ++ b) = didVals a ++ didVals b := by simp [didVals]
theorem SnapM.Bnd.run : ∀ (l : List OpM), (∀ o ∈ l, RunM.bad o = 0) → SnapM.Bnd (SnapM.run l) l.length := by
  intro l
  induction l using snoc_ind with
  | nil => intro _; exact ⟨fun _ => by simp [SnapM.run, SnapM.start], fun _ _ h => by simp [SnapM.run, SnapM.start] at h, ⟨by simp [SnapM.run, SnapM.start], by simp [SnapM.run, SnapM.start]⟩, fun _ => by simp [SnapM.run, SnapM.start]⟩
  | snoc l o ih =>
    intro h
    rw [SnapM.run_snoc, List.length_append]
    exact (ih (fun p hp => h p (by simp [hp]))).step (h o (by simp))
/-- What Play leaves. -/
def SnapM.Post (l : List OpM) (w : World) (e : Ending) (w' : World) : Prop :=
  Below w.heap.size w w' ∧
    ((RunM.check l ≠ 0 ∧ e = .returned (.tuple #[.slice none 0 0, .int .i64 (RunM.check l)])) ∨
     (RunM.check l = 0 ∧ ∃ v, e = .returned (.tuple #[v, .int .i64 0]) ∧ w'.ownsRow w.heap.size 65 2 v l.length (didVals (SnapM.play l))))
theorem SnapM.SW_start {w w1 : World} (hb : Below w.heap.size w w1) :
    SnapM.SW w w1.heap.size SnapM.start (fun _ => .slice none 0 0) (fun _ => .slice none 0 0) (w1.alloc (.cells (Tab 57 (SnapM.cell SnapM.start (fun _ => .slice none 0 0) (fun _ => .slice none 0 0))).toArray 114)) :=
  ⟨hb.size, Blk.new _ _ _, (Fam.nil _ _ _ _ _).alloc _, (Fam.nil _ _ _ _ _).alloc _, hb.alloc hb.size _⟩

set_option maxRecDepth 20000 in
set_option maxHeartbeats 4000000 in
theorem snap_any (l : List OpM) (ao : Option Addr) (cap : Nat) (w : World) (h : OpsAt w ao l) (hf : RunM.Fits l) :
    Calls Try.prog 28 #[.slice ao l.length cap] w (SnapM.Post l w) := by
  obtain ⟨i0, hi0, hz0, hz1, hz2⟩ := info_parts Try.infoDid
  have H := box h; have Hf := box hf
  have hfl := hf.1
  clear h hf
  go_enter Try.func28, Try.ntmps28
  go_wp2_with fail
  refine (runCheck_any l ao cap _ H.out Hf.out).mono ?_
  rintro e w1 ⟨rfl, hb1⟩
  have HB1 := box hb1
  have hs1 := hb1.size
  clear hb1
  obtain ⟨c, HC⟩ : ∃ c, Box (RunM.check l = c) := ⟨_, ⟨rfl⟩⟩
  rw [HC.out]
  by_cases h0 : c = 0
  case neg =>
    have g1 : (c == 0) = false := by simp [h0]
    have g2 : (c != 0) = true := by simp [h0]
    have H0 := box h0; clear h0
    go_wp2_with fail
    refine bodyPost_ret (v := .tuple #[.slice none 0 0, .int .i64 c]) (by simp [results, Try.results28, go_sem]) rfl ⟨?_, Or.inl ⟨?_, ?_⟩⟩
    · exact HB1.out
    · rw [HC.out]; exact H0.out
    · rw [HC.out]
  subst h0
  have HOK := box (RunM.check_ok HC.out)
  have hl200 := HOK.out.1
  have HS0 := box (SnapM.SW_start HB1.out)
  go_wp2_with fail
  obtain ⟨N, HN⟩ : ∃ N, Box (w1.heap.size = N) := ⟨_, ⟨rfl⟩⟩
  rw [HN.out] at HS0 ⊢
  go_loopw [6, 16] (fun t6 t16 wr => ∃ (k : Nat) (vw vv : Nat → Value), k ≤ l.length ∧ t16 = .int .i64 (k : Int) ∧ Box (SnapM.SW w N (SnapM.run (l.take k)) vw vv wr) ∧ wr.ownsRow w.heap.size 65 2 t6 k (didVals (SnapM.play (l.take k)))) (fun _ t16 _ => l.length - (intOf t16).toNat)
  case atStart => exact ⟨0, _, _, Nat.zero_le _, rfl, HS0, World.ownsRow_nil _ _ _ _⟩
  case round =>
    obtain ⟨k, vw, vv, hk, rfl, HS, hown⟩ := hrel
    by_cases hlt : k < l.length
    · obtain ⟨b, off, rfl, hb, hrow⟩ := ((H.out.below HS.out.below (Nat.le_refl _)).resolve_left (by intro h; rw [h] at hlt; simp at hlt))
      obtain ⟨hc0, hc1, hc2⟩ := hrow k hlt
      have Hown := box hown
      have HT := box (show l.take (k + 1) = l.take k ++ [l[k]] from List.take_succ_eq_append_getElem hlt)
      have hbad := HOK.out.2.2 _ (List.getElem_mem hlt)
      have HBn : Box (SnapM.Bnd (SnapM.run (l.take k)) k) := ⟨by
        have := SnapM.Bnd.run (l.take k) (fun o ho => HOK.out.2.2 o (List.mem_of_mem_take ho))
        rwa [List.length_take, Nat.min_eq_left hk] at this⟩
      have Hbad := box hbad
      clear hbad hrow hown
      generalize l[k] = o at *
      go_wp2_with fail
      refine (take_any (HS.out.alloc _) o Hbad.out HBn.out (by omega)).mono ?_
      rintro e w5 ⟨vw', vv', rfl, hsw, hkept⟩
      have HSW := box hsw
      have hownA : w5.ownsRow w.heap.size 65 2 _ k (didVals (SnapM.play (l.take k))) := hkept.own (Hown.out.alloc _) (HS.out.b0.alloc _) (by decide) (by decide) (by decide)
      have HO5 := box hownA
      have hs5 := hsw.below.size
      have HR := box (show SnapM.play (l.take (k + 1)) = SnapM.play (l.take k) ++ [SnapM.did (SnapM.run (l.take k)) o] from by rw [HT.out, SnapM.play_snoc])
      have HRun := box (show SnapM.run (l.take (k + 1)) = SnapM.step (SnapM.run (l.take k)) o from by rw [HT.out, SnapM.run_snoc])
      have hlen : (SnapM.play (l.take k)).length = k := by rw [SnapM.play_len, List.length_take, Nat.min_eq_left hk]
      generalize SnapM.did (SnapM.run (l.take k)) o = d at *
      obtain ⟨dk, df⟩ := d
      simp only
      have hown2 := hownA.alloc (.cells #[.bool dk, .int .i64 df] 65)
      clear hownA hsw hkept hc0 hc1 hc2
      go_wp2_with (at_builtin; go_must (refine wpList_append_own _ rfl _ _ 58 rfl w.heap.size 65 i0 _ 2 16 Try.underlying58 hi0 hz0 hz1 hz2 rfl (by decide) _ _ _ rfl hown2 ⟨w5.heap.size, 0, none⟩ 1 1 [.bool dk, .int .i64 df] rfl rfl (cells_new w5 [.bool dk, .int .i64 df] 65) (by simp [Value.oneCell']) (by unfold maxLen; omega) (by omega) (by simp; omega) ?_))
      intro v' w6 hown3 hgrow _
      have ownD := HO5.out
      have HO := box hown3
      have HSW6 : Box (SnapM.SW w N (SnapM.step (SnapM.run (l.take k)) o) vw' vv' w6) := ⟨by
        have h1 := HSW.out.alloc (.cells #[.bool dk, .int .i64 df] 65)
        have h2 := HO5.out.alloc (.cells #[.bool dk, .int .i64 df] 65)
        exact ⟨h1.lt, h1.b0.grown hgrow (h1.b0.ne_own h2 (by decide)), h1.fw.kept hgrow (fun i hi => own_apart (h1.fw.own i hi) h2 (by decide)), h1.fv.kept hgrow (fun i hi => own_apart (h1.fv.own i hi) h2 (by decide)), h1.below.grown hgrow h1.below.size (fun b hb => (h2.lt b hb).1)⟩⟩
      clear hown3 hgrow hown2 ownD
      go_wp2_with fail
      go_roundw
      case rel =>
        refine ⟨k + 1, vw', vv', hlt, by go_num, ⟨by rw [HRun.out]; exact HSW6.out⟩, ?_⟩
        rw [HR.out, didVals_append]
        exact HO.out
      case measure => simp [intOf]; omega
    · have HE : Box (l.take k = l) := ⟨List.take_of_length_le (by omega)⟩
      have hkl : k = l.length := by omega
      rw [HE.out] at HS
      rw [HE.out, hkl] at hown
      have Hown := box hown
      clear hown
      go_wp2_with fail
      refine bodyPost_ret (by simp [results, Try.results28, go_sem]) rfl ⟨HS.out.below, Or.inr ⟨HC.out, _, rfl, Hown.out⟩⟩
end Go.Proofs.Ytfmgncfikaefhaa
