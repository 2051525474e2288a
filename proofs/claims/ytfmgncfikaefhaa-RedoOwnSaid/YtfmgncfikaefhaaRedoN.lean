/- redo.Recover at a wrong log; what it answers at any log, in memory of its own. -/
import Derived.Test.YtfmgncfikaefhaaRedoR
import Derived.Test.YtfmgncfikaefhaaRowLaws
import Derived.Test.YtfmgncfikaefhaaRedoE
namespace Go.Proofs.Ytfmgncfikaefhaa
open Go.RowKit Go.Lib

set_option maxRecDepth 100000 in
set_option maxHeartbeats 8000000 in
theorem redoRecover_err (l : List RecM) (p : Int → PageM) (ao : Option Addr) (cap : Nat) (w : World) (h : RecsAt w ao l) (hn : l.length ≤ 9000000000000000) (c : Int) (hc : RedoM.check l = c) (hc0 : c ≠ 0) :
    Calls Try.prog 9 #[.slice ao l.length cap, .agg (pgVals p).toArray] w fun e w' =>
      e = .returned (.tuple #[.slice none 0 0, .agg (pgVals RedoM.zero).toArray, .int .i64 c]) ∧ Below w.heap.size w w' := by
  have HC := box (fun W (hb : Below w.heap.size w W) => redoCheck_any l ao cap W (h.below hb (Nat.le_refl _)) hn)
  rw [hc] at HC
  have H := box h
  clear h hc
  obtain ⟨N, HN⟩ : ∃ N, Box (l.length = N) := ⟨_, ⟨rfl⟩⟩
  rw [HN.out] at HC ⊢
  obtain ⟨A, HA⟩ : ∃ A, Box ((pgVals p).toArray = A) := ⟨_, ⟨rfl⟩⟩
  rw [HA.out]
  have d0 : (c == 0) = false := by simpa using hc0
  have d1 : (c != 0) = true := by simpa using hc0
  clear hc0
  refine (callsIn_wide (n := 6)).1 ?_
  refine callsIn_of_wp_marks Try.func9 rfl trivial ?_ rfl
  rw [wpIn_wide]
  simp only [Try.ntmps9, List.size_toArray, List.length_cons, List.length_nil, Nat.reduceAdd, Nat.reduceSub, Array.replicate_succ, Array.replicate_zero, List.push_toArray, List.append_toArray, List.nil_append, List.cons_append]
  go_upto_region 1 with (fail)
  refine name_world (fun W => Below w.heap.size w W ∧ Blk W (w.heap.size + 1) 28 (pgVals RedoM.zero)) ⟨((Below.refl _ _).alloc (Nat.le_refl _) _).alloc (by simp) _, ?_⟩ ?_
  · rw [pg_zero]; exact Blk.new' (by simp) (Tab 40 fun _ => .int .i64 0) _
  rintro W ⟨hbW, hrW⟩
  obtain ⟨B3, HB3⟩ : ∃ x, Box (w.heap.size = x) := ⟨_, ⟨rfl⟩⟩
  obtain ⟨B5, HB5⟩ : ∃ x, Box (w.heap.size + 1 = x) := ⟨_, ⟨rfl⟩⟩
  rw [HB5.out] at hrW ⊢
  rw [HB3.out]
  have HbW := box hbW; have HrW := box hrW
  clear hbW hrW
  go_wp2_with fail
  refine (HC.out W HbW.out).mono ?_
  rintro e w1 ⟨rfl, hb1⟩
  have Hb1 := box (below_tr HbW.out hb1); have Hr1 := box (HrW.out.after hb1)
  clear hb1 HbW HrW
  have hsz : (Try.prog.info? 28).map (·.size) = some (pgVals RedoM.zero).toArray.size := pg_size _
  have hone : (pgVals RedoM.zero).toArray.all (·.oneCell') = true := pg_one _
  have hb5 : w.heap.size ≤ B5 := by have := HB5.out; omega
  go_upto_region 3 with (fail)
  go_wp2_with (refine wpList_store_row rfl 28 (.tmp 5) (.tmp 22) rfl B5 (pgVals RedoM.zero).toArray (by rfl) (by rfl) 28 _ Hr1.out hsz rfl hone ?_)
  have hR2 := Hr1.out.row (pgVals RedoM.zero)
  have hlv := run_loadVar_row (P := Try.prog) (w1.setRow B5 (pgVals RedoM.zero).toArray) B5 28 28 _ (0, 0) _ hR2 Try.underlying28 rfl hsz
  refine ⟨.tuple #[.slice none 0 0, .agg (pgVals RedoM.zero).toArray, .int .i64 c], ?_, rfl, belowSetRow Hb1.out hb5 _⟩
  simp [results, Try.results9, asAddr, hlv]

/-- Records that a call answered, in memory of its own. -/
structure RecGot (w : World) (B : Nat) (ao : Option Addr) (cap : Nat) (l : List RecM) : Prop where
  at_ : RecsAt w ao l
  nil : ao = none → cap = 0
  old : ∀ b off r, ao = some ⟨b, off, r⟩ → B ≤ b
  len : l.length ≤ 900
theorem RecGot.after {w w' : World} {B : Nat} {ao : Option Addr} {cap : Nat} {l : List RecM} (h : RecGot w B ao cap l) (hb : Below w.heap.size w w') : RecGot w' B ao cap l := ⟨h.at_.below hb (Nat.le_refl _), h.nil, h.old, h.len⟩
theorem RecGot.mono {w : World} {B B' : Nat} {ao : Option Addr} {cap : Nat} {l : List RecM} (h : RecGot w B ao cap l) (hB : B' ≤ B) : RecGot w B' ao cap l := ⟨h.at_, h.nil, fun b off r e => Nat.le_trans hB (h.old b off r e), h.len⟩
theorem RecsAt.grown {w w' : World} {ao : Option Addr} {l : List RecM} {row : Option Nat} (h : RecsAt w ao l) (hg : w.grownBy w' row) (hr : ∀ b off, ao = some ⟨b, off, none⟩ → row ≠ some b) : RecsAt w' ao l := by
  rcases h with h | ⟨b, off, h1, h2, h3⟩
  · exact Or.inl h
  · refine Or.inr ⟨b, off, h1, Nat.lt_of_lt_of_le h2 hg.size, fun k hk => ?_⟩
    obtain ⟨c0, c1, c2, c3, c4⟩ := h3 k hk
    have hne : ∀ o, row ≠ some (⟨b, o, none⟩ : Addr).block := fun o => hr b off h1
    exact ⟨hg.cell c0 (fun e => hr b off h1 e.symm), hg.cell c1 (fun e => hr b off h1 e.symm), hg.cell c2 (fun e => hr b off h1 e.symm), hg.cell c3 (fun e => hr b off h1 e.symm), hg.cell c4 (fun e => hr b off h1 e.symm)⟩
theorem RecGot.grown {w w' : World} {B g : Nat} {ao : Option Addr} {cap : Nat} {l : List RecM} (h : RecGot w B ao cap l) (hg : w.grownBy w' (some g)) (hb : g < B) : RecGot w' B ao cap l :=
  ⟨h.at_.grown hg (fun b off e e2 => by injection e2 with e2; subst e2; have := h.old _ _ _ e; omega), h.nil, h.old, h.len⟩
theorem RecGot.ofOwn {w : World} {B n : Nat} {v : Value} {l : List RecM} (h : w.ownsRow B 25 5 v n (recsVals l)) (hl : l.length ≤ 900) : ∃ ao cap, v = .slice ao l.length cap ∧ RecGot w B ao cap l := by
  obtain ⟨ao, cap, rfl, _, hat, hnil, _⟩ := RecsAt.own h
  refine ⟨ao, cap, rfl, hat, hnil, fun b off r e => ?_, hl⟩
  subst e
  exact (h.lt b rfl).1

/-- What Recover answers, whatever the log. -/
def RecoverGot (w : World) (e : Ending) (w' : World) : Prop :=
  ∃ ao cap l p c, e = .returned (.tuple #[.slice ao l.length cap, .agg (pgVals p).toArray, .int .i64 c]) ∧ RecGot w' w.heap.size ao cap l
theorem RedoM.rec_len' (l : List RecM) (p : Int → PageM) : (RedoM.recOut l p).length ≤ l.length + l.length + 12 := by
  unfold RedoM.recOut RedoM.endsTo
  rw [List.length_append, List.length_map]
  have h1 := List.length_filter_le (fun (t : Nat) => (RedoM.undone l p).lo (t : Int)) (List.range 12)
  have h2 := RedoM.undo_out_len (RedoM.won l) ⟨l, RedoM.redo l p, fun _ => false⟩ l
  rw [List.length_range] at h1
  dsimp only at h2
  have h3 : (RedoM.undone l p).out.length ≤ l.length + l.length := h2
  omega
theorem redoRecover_any (l : List RecM) (p : Int → PageM) (ao : Option Addr) (cap : Nat) (w : World) (h : RecsAt w ao l) (hnil : ao = none → cap = 0) (hn : l.length ≤ 9000000000000000) :
    Calls Try.prog 9 #[.slice ao l.length cap, .agg (pgVals p).toArray] w fun e w' => RecoverGot w e w' ∧ Below w.heap.size w w' := by
  by_cases hc : RedoM.check l = 0
  · refine (redoRecover_ok l p ao cap w h hnil hc).mono ?_
    rintro e w' ⟨⟨v, rfl, hown⟩, hb⟩
    have hgo := check_zero hc
    have hl := RedoM.rec_len' l p
    obtain ⟨ao', cap', rfl, hg⟩ := RecGot.ofOwn hown (by omega)
    exact ⟨⟨ao', cap', _, _, _, rfl, hg⟩, hb⟩
  · refine (redoRecover_err l p ao cap w h hn _ rfl hc).mono ?_
    rintro e w' ⟨rfl, hb⟩
    exact ⟨⟨none, 0, [], RedoM.zero, _, rfl, ⟨Or.inl rfl, fun _ => rfl, (fun _ _ _ e => by cases e), by simp⟩⟩, hb⟩
end Go.Proofs.Ytfmgncfikaefhaa
