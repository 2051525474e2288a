/- lock.Drop: its closure, a row without a transaction's locks, the inner loop in plain Lean. -/
import Derived.Test.YtjbmkhalmmahkaaLkDel
import Derived.Test.YtjbmkhalmmahkaaLkAskQ
namespace Go.Proofs.Ytjbmkhalmmahkaa
open Go.RowKit Go.Lib

set_option maxRecDepth 20000 in
set_option maxHeartbeats 2000000 in
theorem drop_f (W : World) (x : LkM) (tx : Int) (Tb : Nat) (hT : W.cell? ⟨Tb, 0, none⟩ = some (.int .i64 tx)) (hTb : Tb < W.heap.size) :
    Calls Try.prog 32 #[.agg #[.int .i64 x.tx, .int .i64 x.mode], .pointer (some ⟨Tb, 0, none⟩)] W fun e w' => e = .returned (.bool (x.tx == tx)) ∧ w' = W.alloc (.cells #[.int .i64 x.tx, .int .i64 x.mode] 28) := by
  obtain ⟨xt, xm⟩ := x
  go_enter Try.func32, Try.ntmps32
  go_wp2_with fail
  go_ret
  exact ⟨rfl, rfl⟩
theorem grown_alloc {w W : World} {row : Option Nat} (h : w.grownBy W row) (o : Obj) : w.grownBy (W.alloc o) row :=
  ⟨h.os, h.tape, h.output, by rw [World.size_alloc]; have := h.size; omega, fun k hk hr => (Below.heap_alloc _ _ _ (Nat.lt_of_lt_of_le hk h.size)).trans (h.block k hk hr)⟩
theorem grown_store {w W : World} {b : Nat} (h : w.grownBy W (some b)) (i : Nat) (u : Value) : w.grownBy (W.setCell ⟨b, i, none⟩ u) (some b) :=
  ⟨h.os, h.tape, h.output, by rw [World.size_setCell]; exact h.size, fun k hk hr => (Below.heap_setCell _ _ _ _ (by show k ≠ b; rintro rfl; exact hr rfl)).trans (h.block k hk hr)⟩
/-- A row without the locks of a transaction. -/
def LkM.WithoutP (B : Nat) (v : Value) (l : List LkM) (tx : Int) (w : World) (e : Ending) (w' : World) : Prop :=
  ∃ v', e = .returned v' ∧ v'.ownBlock = v.ownBlock ∧ w'.ownsRow B 28 2 v' (LkM.without l tx).length (lkVals (LkM.without l tx)) ∧ w.grownBy w' v.ownBlock
theorem without_any (B : Nat) (l : List LkM) (v : Value) (tx : Int) (Tb : Nat) (w : World) (h : w.ownsRow B 28 2 v l.length (lkVals l)) (hT : Blk w Tb 3 [.int .i64 tx]) (hn : l.length ≤ 1000) :
    Calls Try.prog 33 #[v, .func (.func 32) #[] #[.pointer (some ⟨Tb, 0, none⟩)]] w (LkM.WithoutP B v l tx w) := by
  have hTn : v.ownBlock ≠ some Tb := hT.ne_own h (by decide)
  have hTk : ∀ W, w.grownBy W v.ownBlock → Blk W Tb 3 [.int .i64 tx] := fun W hg => hT.grown hg hTn
  refine (deleteFunc_lksT l v B 32 #[.pointer (some ⟨Tb, 0, none⟩)] (fun x => x.tx == tx) (fun _ W => w.grownBy W v.ownBlock) w h (by omega) ⟨rfl, rfl, rfl, Nat.le_refl _, fun _ _ _ => rfl⟩
    { call := fun j hj W hI _ => (drop_f W l[j] tx Tb ((hTk W hI).cell rfl) (hTk W hI).lt).mono fun e w' ⟨h1, h2⟩ => ⟨h1, by rw [h2]; exact grown_alloc hI _, by rw [h2]; simp, fun b _ hb => by rw [h2]; exact Below.heap_alloc _ _ _ hb⟩
      alloc := fun j W o hI => grown_alloc hI o
      store := fun j W b i u hI hb => by rw [hb] at hI ⊢; exact grown_store hI i u } (enters_fn Try.func32 (by kernel_rfl) rfl)).mono ?_
  rintro e w' ⟨v', rfl, hob, hown, hg, _⟩
  exact ⟨v', rfl, hob, hown, hg⟩
namespace LkM
theorem serve_step {held r : List LkM} {a : LkM} {g : List Int} (h : can held a = true) : serve (a :: r).length held (a :: r) g = serve r.length (give held a) r (g ++ [a.tx]) := by
  show serve (r.length + 1) held (a :: r) g = _
  have : serve (r.length + 1) held (a :: r) g = if can held a = true then serve r.length (give held a) r (g ++ [a.tx]) else (held, a :: r, g) := rfl
  rw [this, if_pos h]
theorem serve_stop {held r : List LkM} {a : LkM} {g : List Int} (h : can held a = false) : serve (a :: r).length held (a :: r) g = (held, a :: r, g) := by
  have : serve (r.length + 1) held (a :: r) g = if can held a = true then serve r.length (give held a) r (g ++ [a.tx]) else (held, a :: r, g) := rfl
  show serve (r.length + 1) held (a :: r) g = _
  rw [this, if_neg (by rw [h]; simp)]
theorem serve_nil {held : List LkM} {g : List Int} : serve ([] : List LkM).length held [] g = (held, [], g) := rfl
theorem drop_step (tx : Int) {x : LiM} {r out : List LiM} {g : List Int} : dropGo tx (x :: r) out g = dropGo tx r (if (dropItem x tx g).1.held = [] then out else out ++ [(dropItem x tx g).1]) (dropItem x tx g).2 := rfl
/-- What Drop answers. -/
def DropPost (t : List LiM) (tx : Int) (w : World) (e : Ending) (w' : World) : Prop :=
  Below w.heap.size w w' ∧ ((dropE t tx ≠ 0 ∧ e = .returned (.tuple #[.slice none 0 0, .slice none 0 0, .int .i64 (dropE t tx)])) ∨
    (dropE t tx = 0 ∧ ∃ ao cap ga gc, e = .returned (.tuple #[.slice ao (drop t tx).1.length cap, .slice ga (drop t tx).2.length gc, .int .i64 0]) ∧ LisIn w' w.heap.size ao (drop t tx).1 ∧ IntsAt w' ga (drop t tx).2 ∧ ∀ b o, ga = some ⟨b, o, none⟩ → w.heap.size ≤ b))
end LkM
end Go.Proofs.Ytjbmkhalmmahkaa
