/- pact.Stuck, slices.Equal over ints: what they answer. -/
import Derived.Test.YtnolidjjeknmmaaPactB
import Derived.BigQuiet
import Derived.Deep.QuietTactic
namespace Go.Proofs.Ytnolidjjeknmmaa
open Go.RowKit Go.Lib

set_option maxRecDepth 20000 in
set_option maxHeartbeats 2000000 in
theorem equalInts_same (l : List Int) (ao bo : Option Addr) (cap cap' : Nat) (w : World) (h : IntsAt w ao l) (h' : IntsAt w bo l) (hn : l.length ≤ 9000000000000000000) :
    Calls Try.prog 25 #[.slice ao l.length cap, .slice bo l.length cap'] w fun e w' => e = .returned (.bool true) ∧ ∃ n, w' = w.drewN n := by
  have H := box h; have H' := box h'
  clear h h'
  have q0 : ((l.length : Int) == (l.length : Int)) = true := by simp
  go_enter Try.func25, Try.ntmps25
  go_wp2_with fail
  go_loopw [13] (fun t13 wr => ∃ k n : Nat, wr = w.drewN n ∧ k ≤ l.length ∧ t13 = .int .i64 (k : Int)) (fun t13 _ => l.length - (intOf t13).toNat)
  case atStart => exact ⟨0, 0, rfl, Nat.zero_le _, rfl⟩
  case round =>
    obtain ⟨k, n0, rfl, hk, rfl⟩ := hrel
    by_cases hlt : k < l.length
    · obtain ⟨b, off, rfl, _, hrow⟩ := (H.out.resolve_left (by intro h; rw [h] at hlt; simp at hlt))
      obtain ⟨b', off', rfl, _, hrow'⟩ := (H'.out.resolve_left (by intro h; rw [h] at hlt; simp at hlt))
      have hc0 := hrow k hlt
      have hd0 := hrow' k hlt
      generalize l[k] = a0 at *
      clear hrow hrow'
      have e0 : (a0 == a0) = true := by simp
      have e1 : (a0 != a0) = false := by simp
      go_wp2_with fail
      go_quiet (fail)
      go_wp2_with fail
      go_roundw
      case rel => exact ⟨k + 1, n0 + nq, rfl, hlt, by go_num⟩
      case measure => simp [intOf]; omega
    · go_wp2_with fail
      go_ret
      exact ⟨rfl, n0, rfl⟩

def PactM.AllReady (s : PactSt) : Prop := ∀ i, i < s.parts.length → s.parts.getD i 0 = 1
def PactM.idx (n : Nat) : List Int := (List.range n).map fun (i : Nat) => (i : Int)
theorem PactM.idx_succ (n : Nat) : PactM.idx (n + 1) = PactM.idx n ++ [(n : Int)] := by simp [PactM.idx, List.range_succ]
theorem PactM.idx_len (n : Nat) : (PactM.idx n).length = n := by simp [PactM.idx]
def PactM.StuckPost (s : PactSt) (e : Ending) (w' : World) : Prop :=
  (¬ PactM.Good s ∧ ∃ c : Int, c ≠ 0 ∧ e = .returned (.tuple #[.slice none 0 0, .int .i64 c])) ∨
  (PactM.Good s ∧ ¬ PactM.AllReady s ∧ e = .returned (.tuple #[.slice none 0 0, .int .i64 0])) ∨
  (PactM.Good s ∧ PactM.AllReady s ∧ ∃ so sc, e = .returned (.tuple #[.slice so s.parts.length sc, .int .i64 0]) ∧ IntsAt w' so (PactM.idx s.parts.length))

set_option maxRecDepth 20000 in
set_option maxHeartbeats 4000000 in
theorem pactStuck_any (s : PactSt) (vo po : Option Addr) (vc pc : Nat) (w : World) (hv : IntsAt w vo s.votes) (hp : IntsAt w po s.parts) :
    Calls Try.prog 21 #[.agg #[.int .i64 s.lead, .slice vo s.votes.length vc, .slice po s.parts.length pc]] w fun e w' => PactM.StuckPost s e w' ∧ Below w.heap.size w w' := by
  obtain ⟨i0, hi0, hz0, hz1, hz2⟩ := info_parts IntsM.infoI
  have HIv := box hv; have HIp := box hp
  have HC := box (fun w hv hp => pactCheck_any s vo po vc pc w hv hp)
  clear hv hp
  go_enter Try.func21, Try.ntmps21
  go_upto_region 1 with (fail)
  refine name_world (fun W => Below w.heap.size w W ∧ Blk W w.heap.size 27 [.int .i64 s.lead, .slice vo s.votes.length vc, .slice po s.parts.length pc]) ⟨(Below.refl _ _).alloc (Nat.le_refl _) _, Blk.new _ _ _⟩ ?_
  rintro W ⟨hbW, hkW⟩
  obtain ⟨B1, HB1⟩ : ∃ x, Box (w.heap.size = x) := ⟨_, ⟨rfl⟩⟩
  rw [HB1.out] at hkW ⊢
  have HBW := box hbW; have HKW := box hkW
  have x0 := hkW.cell (i := 0) rfl
  have x1 := hkW.cell (i := 1) rfl
  have x2 := hkW.cell (i := 2) rfl
  clear hbW hkW
  go_wp2_with fail
  refine (HC.out _ (HIv.out.below HBW.out (Nat.le_refl _)) (HIp.out.below HBW.out (Nat.le_refl _))).mono ?_
  rintro e w1 ⟨⟨c, rfl, hcg⟩, hb1⟩
  have HBw := box (below_tr HBW.out hb1)
  have HK1 := box (HKW.out.after hb1)
  have HCG := box hcg
  have hs1 := hb1.size
  clear hb1 hcg x0 x1 x2
  by_cases hc : c = 0
  case neg =>
    have HP : Box (∀ w', PactM.StuckPost s (.returned (.tuple #[.slice none 0 0, .int .i64 c])) w') := ⟨fun w' => Or.inl ⟨fun h => hc (HCG.out.2 h), c, hc, rfl⟩⟩
    have q1 : (c != 0) = true := by simpa using hc
    clear hc
    go_wp2_with fail
    refine bodyPost_ret (by simp [results, Try.results21, go_sem]) rfl ⟨HP.out _, HBw.out⟩
  have HG := box (HCG.out.1 hc)
  subst hc
  have hn8 := HG.out.n8
  have y2 := HK1.out.cell (i := 2) rfl
  have HNo : Box (¬ PactM.AllReady s → ∀ w', PactM.StuckPost s (.returned (.tuple #[.slice none 0 0, .int .i64 0])) w') := ⟨fun h w' => Or.inr (Or.inl ⟨HG.out, h, rfl⟩)⟩
  have HYes : Box (PactM.AllReady s → ∀ w' so sc, IntsAt w' so (PactM.idx s.parts.length) → PactM.StuckPost s (.returned (.tuple #[.slice so s.parts.length sc, .int .i64 0])) w') := ⟨fun h w' so sc h2 => Or.inr (Or.inr ⟨HG.out, h, so, sc, rfl, h2⟩)⟩
  have HAll : Box (∀ i, i < s.parts.length → s.parts.getD i 0 ≠ 1 → ¬ PactM.AllReady s) := ⟨fun i hi h1 h2 => h1 (h2 i hi)⟩
  obtain ⟨n, HLn⟩ : ∃ x, Box (s.parts.length = x) := ⟨_, ⟨rfl⟩⟩
  rw [HLn.out] at y2 hn8 HYes HAll
  clear HCG
  go_wp2_with fail
  go_loopw [5, 16] (fun t5 t16 wr => ∃ k : Nat, k ≤ n ∧ t16 = .int .i64 (k : Int) ∧ Box (wr.ownsRow w1.heap.size 3 1 t5 (PactM.idx k).length (intVals (PactM.idx k))) ∧ Box (Below w1.heap.size w1 wr) ∧ Box (∀ i, i < k → s.parts.getD i 0 = 1)) (fun _ t16 _ => n - (intOf t16).toNat)
  case atStart => exact ⟨0, Nat.zero_le _, rfl, ⟨by simpa [PactM.idx, intVals] using World.ownsRow_nil _ _ _ _⟩, ⟨Below.refl _ _⟩, ⟨fun i h => by omega⟩⟩
  case round =>
    obtain ⟨k, hk, rfl, HO, Hb, Hr⟩ := hrel
    have HBr := box (below_tr HBw.out Hb.out)
    by_cases hlt : k < n
    case neg =>
      have hkn : k = n := by omega
      subst hkn
      obtain ⟨so, sc, rfl, _, hat, _, _⟩ := IntsAt.own HO.out
      have HF := box (HYes.out (fun i hi => Hr.out i (by have := HLn.out; omega)) wr so sc hat)
      rw [PactM.idx_len]
      clear hat HO
      go_wp2_with fail
      refine bodyPost_ret (by simp [results, Try.results21, go_sem]) rfl ⟨HF.out, HBr.out⟩
    have hi1 : k < s.parts.length := by rw [HLn.out]; exact hlt
    obtain ⟨b, off, rfl, _, hrow⟩ := ((HIp.out.below HBr.out (Nat.le_refl _)).resolve_left (by intro h; rw [h] at hi1; simp at hi1))
    have c0 := hrow k hi1
    rw [← getD_of_lt hi1] at c0
    have HN := box (HAll.out k hlt)
    have HRn : Box (s.parts.getD k 0 = 1 → ∀ i, i < k + 1 → s.parts.getD i 0 = 1) := ⟨fun h i hi => by
      by_cases e : i = k
      · subst e; exact h
      · exact Hr.out i (by omega)⟩
    clear hrow hi1
    generalize s.parts.getD k 0 = a at *
    by_cases ha : a = 1
    case neg =>
      have q1 : (a != 1) = true := by simpa using ha
      have HF := box (HNo.out (HN.out ha))
      clear ha
      go_wp2_with fail
      refine bodyPost_ret (by simp [results, Try.results21, go_sem]) rfl ⟨HF.out _, HBr.out⟩
    have HR2 := box (HRn.out ha)
    subst ha
    have hown2 := HO.out.alloc (.cells #[.int .i64 (k : Int)] 3)
    have hl := PactM.idx_len k
    have hsr := Hb.out.size
    go_wp2_with (at_builtin; go_must (refine wpList_append_own _ rfl _ _ 25 rfl w1.heap.size 3 i0 _ 1 8 Try.underlying25 hi0 hz0 hz1 hz2 rfl (by decide) _ _ _ rfl hown2 ⟨wr.heap.size, 0, none⟩ 1 1 [.int .i64 (k : Int)] rfl rfl (cells_new wr [.int .i64 (k : Int)] 3) (by simp [Value.oneCell']) (by unfold maxLen; omega) (by omega) (by simp; omega) ?_))
    intro v' w9 hown3 hgrow _
    have HB9 := box ((Hb.out.alloc hsr (.cells #[.int .i64 (k : Int)] 3)).grown hgrow (by simp; omega) (fun j hj => (HO.out.lt j hj).1))
    have HO9 : Box (w9.ownsRow w1.heap.size 3 1 v' (PactM.idx (k + 1)).length (intVals (PactM.idx (k + 1)))) := ⟨by rw [PactM.idx_succ, intVals_append, List.length_append, PactM.idx_len]; exact hown3⟩
    clear hown2 hown3 hgrow hl
    go_wp2_with fail
    go_roundw
    case rel => exact ⟨k + 1, hlt, by go_num, HO9, HB9, HR2⟩
    case measure => simp [intOf]; omega
end Go.Proofs.Ytnolidjjeknmmaa
