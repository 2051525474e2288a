/- skew.Play: what it computes. -/
import Derived.Test.YtgkclgmekbgjmaaSkT2
import Derived.Test.YtgkclgmekbgjmaaRunCheck
import Derived.Test.YtgkclgmekbgjmaaStampM
namespace Go.Proofs.Ytgkclgmekbgjmaa
open Go.RowKit Go.Lib

def SkM.run (l : List OpM) : SkSt := l.foldl (fun st o => SkM.step (SkM.cl st o) st o) SkM.start
def SkM.dids : List OpM → SkSt → List DidM
  | [], _ => []
  | o :: l, st => SkM.did (SkM.cl st o) st o :: SkM.dids l (SkM.step (SkM.cl st o) st o)
def SkM.play (l : List OpM) : List DidM := SkM.dids l SkM.start
theorem SkM.run_snoc (l : List OpM) (o : OpM) : SkM.run (l ++ [o]) = SkM.step (SkM.cl (SkM.run l) o) (SkM.run l) o := by simp [SkM.run, List.foldl_append]
theorem SkM.dids_snoc (l : List OpM) (o : OpM) : ∀ st, SkM.dids (l ++ [o]) st = SkM.dids l st ++ [SkM.did (SkM.cl (l.foldl (fun st o => SkM.step (SkM.cl st o) st o) st) o) (l.foldl (fun st o => SkM.step (SkM.cl st o) st o) st) o] := by
  induction l with
  | nil => intro st; rfl
  | cons a l ih => intro st; simp only [List.cons_append, SkM.dids, List.foldl_cons, ih]
theorem SkM.play_snoc (l : List OpM) (o : OpM) : SkM.play (l ++ [o]) = SkM.play l ++ [SkM.did (SkM.cl (SkM.run l) o) (SkM.run l) o] := SkM.dids_snoc l o SkM.start
theorem SkM.play_len (l : List OpM) : (SkM.play l).length = l.length := by
  have h : ∀ (l : List OpM) st, (SkM.dids l st).length = l.length := by
    intro l
    induction l with
    | nil => intro st; rfl
    | cons a l ih => intro st; simp [SkM.dids, ih]
  exact h l _
theorem SkM.cl_ww {st : SkSt} {o : OpM} (h : SkM.ww (SkM.begin st o.tx.toNat) o.tx.toNat = true) : SkM.cl st o = true := by
  unfold SkM.cl SkM.clash; rw [h]; rfl
theorem SkM.cl_alone {st : SkSt} {o : OpM} (h : ∀ y, y < 12 → y ≠ o.tx.toNat → (SkM.begin st o.tx.toNat).dn y = false) : SkM.cl st o = false := by
  unfold SkM.cl SkM.clash
  generalize SkM.begin st o.tx.toNat = s at *
  generalize o.tx.toNat = x at *
  have h1 : SkM.ww s x = false := by
    unfold SkM.ww
    rw [List.any_eq_false]
    intro y hy
    have hy := List.mem_range.1 hy
    unfold SkM.wwAt
    by_cases e : y = x
    · rw [decide_eq_false (by simpa using e)]; simp
    · rw [h y hy e]; simp
  have h2 : SkM.olds s x 12 = [] := by
    unfold SkM.olds
    rw [List.filter_eq_nil_iff]
    intro y hy
    have hy := List.mem_range.1 hy
    by_cases e : y = x
    · simp [e]
    · rw [h y hy e]; simp
  rw [h1, h2]
  simp [SkM.pivot, SkM.inn]
theorem SkM.rel (l : List OpM) : SkRel l (SkM.run l) (SkM.play l) := by
  induction l using snoc_ind with
  | nil => exact SkRel.nil
  | snoc l o ih =>
    rw [SkM.run_snoc, SkM.play_snoc]
    exact SkRel.snoc o _ ih SkM.cl_ww SkM.cl_alone
theorem SkM.Bnd.run (l : List OpM) (h : ∀ o ∈ l, RunM.bad o = 0) : SkM.Bnd (SkM.run l) l.length := (SkM.rel l).bnd h
/-- What Play leaves. -/
def SkM.Post (l : List OpM) (w : World) (e : Ending) (w' : World) : Prop :=
  Below w.heap.size w w' ∧
    ((RunM.check l ≠ 0 ∧ e = .returned (.tuple #[.slice none 0 0, .int .i64 (RunM.check l)])) ∨
     (RunM.check l = 0 ∧ ∃ v, e = .returned (.tuple #[v, .int .i64 0]) ∧ w'.ownsRow w.heap.size 59 2 v l.length (didVals (SkM.play l))))
theorem SkM.SW_start {w w1 : World} (hb : Below w.heap.size w w1) :
    SkM.SW w w1.heap.size SkM.start (fun _ => .slice none 0 0) (w1.alloc (.cells (Tab 93 (SkM.cell SkM.start (fun _ => .slice none 0 0))).toArray 130)) :=
  ⟨hb.size, Blk.new _ _ _, (Fam.nil _ _ _ _ _).alloc _, hb.alloc hb.size _⟩

set_option maxRecDepth 20000 in
set_option maxHeartbeats 4000000 in
theorem skew_any (l : List OpM) (ao : Option Addr) (cap : Nat) (w : World) (h : OpsAt w ao l) (hf : RunM.Fits l) :
    Calls Try.prog 23 #[.slice ao l.length cap] w (SkM.Post l w) := by
  obtain ⟨i0, hi0, hz0, hz1, hz2⟩ := info_parts Try.infoDid
  have H := box h; have Hf := box hf
  have hfl := hf.1
  clear h hf
  go_enter Try.func23, Try.ntmps23
  go_wp2_with fail
  refine (runCheck_any l ao cap _ H.out Hf.out).mono ?_
  rintro e w1 ⟨rfl, hb1⟩
  have HB1 := box hb1
  have hs1 := hb1.size
  clear hb1
  obtain ⟨c, HC⟩ : ∃ c, Box (RunM.check l = c) := ⟨_, ⟨rfl⟩⟩
  rw [HC.out]
  by_cases h0 : c = 0
  case neg =>
    have g1 : (c == 0) = false := by simp [h0]
    have g2 : (c != 0) = true := by simp [h0]
    have H0 := box h0; clear h0
    go_wp2_with fail
    refine bodyPost_ret (v := .tuple #[.slice none 0 0, .int .i64 c]) (by simp [results, Try.results23, go_sem]) rfl ⟨?_, Or.inl ⟨?_, ?_⟩⟩
    · exact HB1.out
    · rw [HC.out]; exact H0.out
    · rw [HC.out]
  subst h0
  have HOK := box (RunM.check_ok HC.out)
  have hl200 := HOK.out.1
  have HS0 := box (SkM.SW_start HB1.out)
  go_wp2_with fail
  obtain ⟨N, HN⟩ : ∃ N, Box (w1.heap.size = N) := ⟨_, ⟨rfl⟩⟩
  rw [HN.out] at HS0 ⊢
  go_loopw [6, 16] (fun t6 t16 wr => ∃ (k : Nat) (vv : Nat → Value), k ≤ l.length ∧ t16 = .int .i64 (k : Int) ∧ Box (SkM.SW w N (SkM.run (l.take k)) vv wr) ∧ wr.ownsRow w.heap.size 59 2 t6 k (didVals (SkM.play (l.take k)))) (fun _ t16 _ => l.length - (intOf t16).toNat)
  case atStart => exact ⟨0, _, Nat.zero_le _, rfl, HS0, World.ownsRow_nil _ _ _ _⟩
  case round =>
    obtain ⟨k, vv, hk, rfl, HS, hown⟩ := hrel
    by_cases hlt : k < l.length
    · obtain ⟨b, off, rfl, hb, hrow⟩ := ((H.out.below HS.out.below (Nat.le_refl _)).resolve_left (by intro h; rw [h] at hlt; simp at hlt))
      obtain ⟨hc0, hc1, hc2⟩ := hrow k hlt
      have Hown := box hown
      have HT := box (show l.take (k + 1) = l.take k ++ [l[k]] from List.take_succ_eq_append_getElem hlt)
      have hbad := HOK.out.2.2 _ (List.getElem_mem hlt)
      have HBn : Box (SkM.Bnd (SkM.run (l.take k)) k) := ⟨by
        have := SkM.Bnd.run (l.take k) (fun o ho => HOK.out.2.2 o (List.mem_of_mem_take ho))
        rwa [List.length_take, Nat.min_eq_left hk] at this⟩
      have Hbad := box hbad
      clear hbad hrow hown
      generalize l[k] = o at *
      go_wp2_with fail
      refine (skTake_any (HS.out.alloc _) o Hbad.out HBn.out (by omega)).mono ?_
      rintro e w5 ⟨vv', rfl, hsw, hkept⟩
      have HSW := box hsw
      have hownA : w5.ownsRow w.heap.size 59 2 _ k (didVals (SkM.play (l.take k))) := hkept.own (Hown.out.alloc _) (HS.out.b0.alloc _) (by decide) (by decide)
      have HO5 := box hownA
      have hs5 := hsw.below.size
      have HR := box (show SkM.play (l.take (k + 1)) = SkM.play (l.take k) ++ [SkM.did (SkM.cl (SkM.run (l.take k)) o) (SkM.run (l.take k)) o] from by rw [HT.out, SkM.play_snoc])
      have HRun := box (show SkM.run (l.take (k + 1)) = SkM.step (SkM.cl (SkM.run (l.take k)) o) (SkM.run (l.take k)) o from by rw [HT.out, SkM.run_snoc])
      have hlen : (SkM.play (l.take k)).length = k := by rw [SkM.play_len, List.length_take, Nat.min_eq_left hk]
      generalize SkM.did (SkM.cl (SkM.run (l.take k)) o) (SkM.run (l.take k)) o = d at *
      obtain ⟨dk, df⟩ := d
      simp only
      have hown2 := hownA.alloc (.cells #[.bool dk, .int .i64 df] 59)
      clear hownA hsw hkept hc0 hc1 hc2
      go_wp2_with (at_builtin; go_must (refine wpList_append_own _ rfl _ _ 55 rfl w.heap.size 59 i0 _ 2 16 Try.underlying55 hi0 hz0 hz1 hz2 rfl (by decide) _ _ _ rfl hown2 ⟨w5.heap.size, 0, none⟩ 1 1 [.bool dk, .int .i64 df] rfl rfl (cells_new w5 [.bool dk, .int .i64 df] 59) (by simp [Value.oneCell']) (by unfold maxLen; omega) (by omega) (by simp; omega) ?_))
      intro v' w6 hown3 hgrow _
      have ownD := HO5.out
      have HO := box hown3
      have HSW6 : Box (SkM.SW w N (SkM.step (SkM.cl (SkM.run (l.take k)) o) (SkM.run (l.take k)) o) vv' w6) := ⟨by
        have h1 := HSW.out.alloc (.cells #[.bool dk, .int .i64 df] 59)
        have h2 := HO5.out.alloc (.cells #[.bool dk, .int .i64 df] 59)
        exact ⟨h1.lt, h1.b0.grown hgrow (h1.b0.ne_own h2 (by decide)), h1.fam.kept hgrow (fun i hi => own_apart (h1.fam.own i hi) h2 (by decide)), h1.below.grown hgrow h1.below.size (fun b hb => (h2.lt b hb).1)⟩⟩
      clear hown3 hgrow hown2 ownD
      go_wp2_with fail
      go_roundw
      case rel =>
        refine ⟨k + 1, vv', hlt, by go_num, ⟨by rw [HRun.out]; exact HSW6.out⟩, ?_⟩
        rw [HR.out, didVals_append]
        exact HO.out
      case measure => simp [intOf]; omega
    · have HE : Box (l.take k = l) := ⟨List.take_of_length_le (by omega)⟩
      have hkl : k = l.length := by omega
      rw [HE.out] at HS
      rw [HE.out, hkl] at hown
      have Hown := box hown
      clear hown
      go_wp2_with fail
      refine bodyPost_ret (by simp [results, Try.results23, go_sem]) rfl ⟨HS.out.below, Or.inr ⟨HC.out, _, rfl, Hown.out⟩⟩
end Go.Proofs.Ytgkclgmekbgjmaa
