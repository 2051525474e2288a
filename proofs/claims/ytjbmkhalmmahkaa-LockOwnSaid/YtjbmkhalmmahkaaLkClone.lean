/- slices.Clone over locks. -/
import Derived.Test.YtjbmkhalmmahkaaLkI
import Derived.Deep.DeepMust
import Derived.Lib.LazyBuf
namespace Go.Proofs.Ytjbmkhalmmahkaa
open Go.RowKit Go.Lib

set_option maxRecDepth 20000 in
set_option maxHeartbeats 2000000 in
theorem clone_lks (l : List LkM) (ao : Option Addr) (cap : Nat) (w : World) (h : LksAt w ao l) (hnil : ao = none → cap = 0) (hn : l.length ≤ 1000000000) :
    Calls Try.prog 47 #[.slice ao l.length cap] w fun e w' => (∃ v, e = .returned v ∧ w'.ownsRow w.heap.size 28 2 v l.length (lkVals l)) ∧ Below w.heap.size w w' := by
  have H := box h
  clear h
  have q0 := fun (w : World) (a : Option Addr) (n c : Nat) => _root_.Go.run_eql_slice_nil (P := Try.prog) w 30 28 a n c Try.underlying30
  cases ao with
  | none =>
    have hl : l = [] := H.out.resolve_right (by rintro ⟨b, off, h, _⟩; cases h)
    have hc := hnil rfl
    subst hl
    subst hc
    go_enter Try.func47, Try.ntmps47
    go_wp2_with fail
    go_ret
    exact ⟨⟨_, rfl, World.ownsRow_nil _ _ _ _⟩, Below.refl _ _⟩
  | some ad =>
    obtain ⟨i0, hi0, hz0, hz1, hz2⟩ := info_parts Try.infoLk
    have Hcs : Box (∀ wx, Below w.heap.size w wx → ∀ j u, (lkVals l)[j]? = some u → wx.cell? (ad.add j) = some u) := ⟨fun wx hx j u hu => by
      rcases H.out with h | ⟨b, off, h1, h2, h3⟩
      · subst h; simp [lkVals] at hu
      · injection h1 with h1
        subst h1
        have hj : j < l.length * 2 := by have := (List.getElem?_eq_some_iff.1 hu).1; rw [lkVals_len] at this; exact this
        rw [Addr.add_lit]
        refine (hx.cell (p := ⟨b, off + j, none⟩) h2).trans ?_
        have hk : j / 2 < l.length := by omega
        obtain ⟨a0, a1⟩ := lkVals_at l (j / 2) hk
        obtain ⟨c0, c1⟩ := h3 (j / 2) hk
        rcases Nat.mod_two_eq_zero_or_one j with e | e
        · have ej : j / 2 * 2 = j := by omega
          rw [ej] at a0 c0
          rw [c0, ← a0, hu]
        · have ej : j / 2 * 2 + 1 = j := by omega
          rw [ej] at a1
          rw [show off + j / 2 * 2 + 1 = off + j by omega] at c1
          rw [c1, ← a1, hu]⟩
    clear hnil
    go_enter Try.func47, Try.ntmps47
    have hown := World.ownsRow_lit (base := w.heap.size) (e := 28) (size := 2) w #[] 0 (Nat.le_refl _) (Nat.zero_le _) rfl
    have HB := box ((Below.refl w.heap.size w).alloc (Nat.le_refl _) (.cells #[] 28))
    go_wp2_with (at_builtin; go_must (refine wpList_append_own _ rfl _ _ 30 rfl w.heap.size 28 i0 _ 2 16 Try.underlying30 hi0 hz0 hz1 hz2 rfl (by decide) _ _ _ rfl hown ad l.length cap (lkVals l) rfl (lkVals_len l) (Hcs.out _ HB.out) (lkVals_one l) (by unfold maxLen; omega) (by omega) (by simp) ?_))
    intro v' w9 hown3 hgrow _
    have HB9 := box (HB.out.grown hgrow (by simp) (fun j hj => by have := hown.lt j hj; omega))
    clear hgrow hown
    go_wp2_with fail
    go_ret
    exact ⟨⟨_, rfl, by simpa using hown3⟩, HB9.out⟩

/-- Function g, with lb behind, tells p of an operation, in world W; it may lay blocks. -/
def TellsBk (g : Nat) (lb : Array Value) (p : LkM → Bool) (W : World) (o : LkM) : Prop := Calls Try.prog g (#[.agg #[.int .i64 o.tx, .int .i64 o.mode]] ++ lb) W fun e w' => e = .returned (.bool (p o)) ∧ Below W.heap.size W w'
def BksM.find (p : LkM → Bool) (l : List LkM) : Int := if l.findIdx p < l.length then (l.findIdx p : Int) else -1

end Go.Proofs.Ytjbmkhalmmahkaa
