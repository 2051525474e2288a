/- slices.Clone over edges. -/
import Derived.Test.YtnnkejolfhhmlaaOpen
import Derived.Test.YtnnkejolfhhmlaaEgC
import Derived.Deep.Strs
import Derived.Lib.SmallJoins
import Derived.Deep.DeepMust
import Derived.Lib.LazyBuf
namespace Go.Proofs.Ytnnkejolfhhmlaa
section
open Go.ChangeShapes Go.WideShapes Go.ChangeAt Go.RowKit Go.ChangeMaps Go.Deep

theorem Try.cellsEg : Try.prog.cellsOf 92 = 2 := by kernel_rfl
theorem Try.cellsIntE : Try.prog.cellsOf 3 = 1 := by kernel_rfl
theorem Try.bytesEg : Try.prog.bytesOf 92 = 16 := by kernel_rfl
theorem Try.infoEg : (Try.prog.info? 92).map (fun i => (i.zero, i.size, i.bytes)) = some (some (.agg #[.int .i64 0, .int .i64 0]), 2, 16) := by kernel_rfl

section
variable {H : Type} {enc : TypeId × Value → H} {w : World}
set_option maxRecDepth 100000 in
theorem open_eg {n : Nat} {cs : List Value} {x : DataW H × List MemPlace} (h : DataW.trod enc Try.prog w 0 (fun _ => true) true n 92 cs = some x) :
    ∃ o : EgM, cs = [.int .i64 o.frm, .int .i64 o.to_] := by
  obtain ⟨y0, y1, m, rfl, hl, h0, h1⟩ := trod_struct2 Try.underlying92 h
  rw [Try.cellsEg] at hl
  match cs, hl with
  | [c0, c1], _ =>
    simp only [Try.cellsIntE, List.drop_zero, List.take_succ_cons, List.take_zero, List.drop_succ_cons] at h0 h1
    obtain ⟨x0, e0, rfl, _⟩ := DataW.trod_int Try.underlying3 h0
    obtain ⟨x1, e1, rfl, _⟩ := DataW.trod_int Try.underlying3 h1
    simp only [List.cons.injEq, and_true] at e0 e1
    subst e0; subst e1
    exact ⟨⟨x0, x1⟩, rfl⟩

set_option maxRecDepth 100000 in
/-- Edges that came in. -/
theorem open_egs {r : Reach} {b0 : Nat} {v : Value} {d : DataW H} {p : List MemPlace} (hval : Value.okWide Try.prog w r b0 74 v) (h : DataW.Trod enc Try.prog w 0 (fun _ => true) true 74 v d p) (hsz : ∀ n ∈ d.weights Try.prog 74, n ≤ reachBytes) :
    ∃ ao cap L, v = .slice ao L.length cap ∧ EgsAt w ao L ∧ L.length ≤ cap ∧ (ao = none → cap = 0) ∧ L.length ≤ 8796093022200 := by
  obtain ⟨a0, n0, c0, rfl⟩ := okWide_slice Try.underlying74 hval
  obtain ⟨fuel, hf⟩ := h
  have hf : DataW.trod enc Try.prog w 0 (fun _ => true) true fuel 74 [.slice a0 n0 c0] = some (d, p) := hf
  have hr : reachBytes = 140737488351232 := rfl
  rcases Open.slice_rows (w := w) Try.underlying74 Try.cellsEg (by omega) hf with ⟨h1, e⟩ | ⟨a, len, cap, m, D, Pl, h1, hle, hmx, e, hel, hpl⟩
  · rw [h1]
    exact ⟨none, 0, [], rfl, Or.inl rfl, Nat.le_refl _, fun _ => rfl, by decide⟩
  · simp only at e
    rw [e] at hsz
    have hcap := hsz _ (Open.weights_cap Try.underlying74)
    rw [Try.bytesEg] at hcap
    simp only [List.length_map, List.length_range] at hcap
    obtain ⟨F, hF⟩ := choose_lt (α := EgM) (n := len) (p := fun i s => w.cell? (a.add (i * 2 + 0)) = some (.int .i64 s.frm) ∧ w.cell? (a.add (i * 2 + 1)) = some (.int .i64 s.to_)) (fun i hi => by
      obtain ⟨cs', c1, c2, c3⟩ := hel i hi
      obtain ⟨o, rfl⟩ := open_eg c3
      exact ⟨o, c2 0 (by omega), c2 1 (by omega)⟩)
    have hlen : ((List.range len).map F).length = len := by simp
    refine ⟨some a, cap, (List.range len).map F, (by rw [hlen, h1]), ?_, (by rw [hlen]; exact hle), (fun h => by cases h), (by rw [hlen]; omega)⟩
    by_cases h0 : len = 0
    · left; subst h0; rfl
    · right
      obtain ⟨b, off, rfl, hb⟩ := hpl (by omega)
      refine ⟨b, off, rfl, hb, fun k hk => ?_⟩
      rw [hlen] at hk
      obtain ⟨f1, f2⟩ := hF k hk
      rw [Addr.add_lit] at f1 f2
      simp only [List.getElem_map, List.getElem_range]
      exact ⟨f1, f2⟩
end
end
section
open Go.RowKit Go.Lib

set_option maxRecDepth 20000 in
set_option maxHeartbeats 2000000 in
theorem clone_egs (l : List EgM) (ao : Option Addr) (cap : Nat) (w : World) (h : EgsAt w ao l) (hnil : ao = none → cap = 0) (hn : l.length ≤ 1000000000) :
    Calls Try.prog 51 #[.slice ao l.length cap] w fun e w' => (∃ v, e = .returned v ∧ w'.ownsRow w.heap.size 92 2 v l.length (egVals l)) ∧ Below w.heap.size w w' := by
  have H := box h
  clear h
  have q0 := fun (w : World) (a : Option Addr) (n c : Nat) => _root_.Go.run_eql_slice_nil (P := Try.prog) w 74 92 a n c Try.underlying74
  cases ao with
  | none =>
    have hl : l = [] := H.out.resolve_right (by rintro ⟨b, off, h, _⟩; cases h)
    have hc := hnil rfl
    subst hl
    subst hc
    go_enter Try.func51, Try.ntmps51
    go_wp2_with fail
    go_ret
    exact ⟨⟨_, rfl, World.ownsRow_nil _ _ _ _⟩, Below.refl _ _⟩
  | some ad =>
    obtain ⟨i0, hi0, hz0, hz1, hz2⟩ := info_parts Try.infoEg
    have Hcs : Box (∀ wx, Below w.heap.size w wx → ∀ j u, (egVals l)[j]? = some u → wx.cell? (ad.add j) = some u) := ⟨fun wx hx j u hu => by
      rcases H.out with h | ⟨b, off, h1, h2, h3⟩
      · subst h; simp [egVals] at hu
      · injection h1 with h1
        subst h1
        have hj : j < l.length * 2 := by have := (List.getElem?_eq_some_iff.1 hu).1; rw [egVals_len] at this; exact this
        rw [Addr.add_lit]
        refine (hx.cell (p := ⟨b, off + j, none⟩) h2).trans ?_
        have hk : j / 2 < l.length := by omega
        obtain ⟨a0, a1⟩ := egVals_at l (j / 2) hk
        obtain ⟨c0, c1⟩ := h3 (j / 2) hk
        rcases Nat.mod_two_eq_zero_or_one j with e | e
        · have ej : j / 2 * 2 = j := by omega
          rw [ej] at a0 c0
          rw [c0, ← a0, hu]
        · have ej : j / 2 * 2 + 1 = j := by omega
          rw [ej] at a1
          rw [show off + j / 2 * 2 + 1 = off + j by omega] at c1
          rw [c1, ← a1, hu]⟩
    clear hnil
    go_enter Try.func51, Try.ntmps51
    have hown := World.ownsRow_lit (base := w.heap.size) (e := 92) (size := 2) w #[] 0 (Nat.le_refl _) (Nat.zero_le _) rfl
    have HB := box ((Below.refl w.heap.size w).alloc (Nat.le_refl _) (.cells #[] 92))
    go_wp2_with (at_builtin; go_must (refine wpList_append_own _ rfl _ _ 74 rfl w.heap.size 92 i0 _ 2 16 Try.underlying74 hi0 hz0 hz1 hz2 rfl (by decide) _ _ _ rfl hown ad l.length cap (egVals l) rfl (egVals_len l) (Hcs.out _ HB.out) (egVals_one l) (by unfold maxLen; omega) (by omega) (by simp) ?_))
    intro v' w9 hown3 hgrow _
    have HB9 := box (HB.out.grown hgrow (by simp) (fun j hj => by have := hown.lt j hj; omega))
    clear hgrow hown
    go_wp2_with fail
    go_ret
    exact ⟨⟨_, rfl, by simpa using hown3⟩, HB9.out⟩
end
end Go.Proofs.Ytnnkejolfhhmlaa
