/- A log in memory, and a row of texts beside it. -/
import Derived.Test.YtpeaefeoogcepaaDoorWalLg
namespace Go.Proofs.YtpeaefeoogcepaaDoor
open Go.RowKit Go.Lib
open WalM

namespace WalM
/-- A log, and a row of the law's own. -/
structure LogRow (w : World) (base D Lb : Nat) (vs ve vl : Value) (d : DiskM) (l : LogM) (B : Nat) (v : Value) (ts : List (List UInt8)) : Prop where
  log : LogIn w base D vs ve vl d 24 Lb l
  own : w.ownsRow B 9 1 v ts.length (secVals ts)
  ap : ∀ b, v.ownBlock = some b → ¬ Turns D vs ve vl Lb b
section
variable {w w1 w2 : World} {base D Lb B : Nat} {vs ve vl vl1 v : Value} {d d1 : DiskM} {l l1 : LogM} {ts : List (List UInt8)}
theorem Turns.back (h : LogMv w base D vs ve vl Lb d l vl1 w1) {b : Nat} (hb : b < w.heap.size) (hm : Turns D vs ve vl1 Lb b) : Turns D vs ve vl Lb b := by
  rcases hm with hm | hm
  · exact Or.inl hm
  · exact Or.inr (h.mine hb hm)
theorem LogRow.moved (h : LogRow w base D Lb vs ve vl d l B v ts) (k : LogMv w base D vs ve vl Lb d1 l1 vl1 w1) (hg : SectM.Good 24 d1) (hl : d1.late.length ≤ 1000000) : LogRow w1 base D Lb vs ve vl1 d1 l1 B v ts :=
  ⟨k.in_ h.log hg hl, k.kept.own h.own h.ap, fun b hb hm => h.ap b hb (Turns.back k (h.own.lt b hb).2 hm)⟩
theorem LogIn.below (h : LogIn w base D vs ve vl d 24 Lb l) (hb : Below w.heap.size w w1) : LogIn w1 base D vs ve vl d 24 Lb l :=
  ⟨h.at_.below hb, h.good, h.log.after hb, h.ap, h.lb, h.n1, h.n2, h.late, Nat.le_trans h.bs hb.size⟩
theorem LogRow.below (h : LogRow w base D Lb vs ve vl d l B v ts) (hb : Below w.heap.size w w1) : LogRow w1 base D Lb vs ve vl d l B v ts :=
  ⟨h.log.below hb, ownsRow_below h.own hb, h.ap⟩
theorem LogIn.turns_lt (h : LogIn w base D vs ve vl d 24 Lb l) {b : Nat} (hm : Turns D vs ve vl Lb b) : base ≤ b ∧ b < w.heap.size := by
  rcases hm with rfl | hm
  · exact ⟨h.lb, h.log.lt⟩
  · exact h.at_.mine_lt hm
/-- A block that a log does not turn may be written. -/
theorem LogIn.kept (h : LogIn w base D vs ve vl d 24 Lb l) {row : Option Nat} (hg : w.grownBy w1 row) (hr : ∀ b, row = some b → ¬ Turns D vs ve vl Lb b) : LogIn w1 base D vs ve vl d 24 Lb l := by
  have hn : ∀ b, Turns D vs ve vl Lb b → w1.heap[b]? = w.heap[b]? := fun b hb => hg.block b (h.turns_lt hb).2 (fun e => hr b e.symm hb)
  have ho : ∀ {e size n : Nat} {u : Value} {xs : List Value}, w.ownsRow base e size u n xs → (∀ b, u.ownBlock = some b → Turns D vs ve vl Lb b) → w1.ownsRow base e size u n xs := fun hu hb => by
    refine ⟨hu.1, ?_⟩
    rcases hu.2 with h1 | ⟨g, cap, cur, rfl, h2, h3, h4⟩
    · exact Or.inl h1
    · exact Or.inr ⟨g, cap, cur, rfl, h2, (hn g (hb g rfl)).trans h3, h4⟩
  have ha := h.at_
  exact ⟨⟨(hn D (Or.inr (Or.inl rfl))).trans ha.blk, ha.lt, ho ha.safe (fun b hb => Or.inr (Or.inr (Or.inl hb))), ho ha.seen (fun b hb => Or.inr (Or.inr (Or.inr (Or.inl hb)))), ho ha.late (fun b hb => Or.inr (Or.inr (Or.inr (Or.inr hb)))), ha.apart, ha.left⟩,
    h.good, (hn Lb (Or.inl rfl)).trans h.log, h.ap, h.lb, h.n1, h.n2, h.late, Nat.le_trans h.bs hg.size⟩
/-- A text is laid into the row. -/
theorem LogRow.push {o : Obj} {t : List UInt8} {gg n gcap : Nat} (hl : LogIn w base D vs ve vl d 24 Lb l) (hv : ∀ b, v.ownBlock = some b → ¬ Turns D vs ve vl Lb b) (hg : (w.alloc o).grownBy w1 v.ownBlock) (hat : v.ownBlock = some gg ∨ gg = w.heap.size + 1)
    (ho : w1.ownsRow B 9 1 (.slice (some ⟨gg, 0, none⟩) n gcap) n (secVals ts ++ [.string (BA t)])) (hn : n = ts.length + 1) : LogRow w1 base D Lb vs ve vl d l B (.slice (some ⟨gg, 0, none⟩) n gcap) (ts ++ [t]) := by
  subst hn
  refine ⟨(hl.below ((Below.refl _ _).alloc (Nat.le_refl _) _)).kept hg (fun b hb => hv b hb), ?_, fun b hb hm => ?_⟩
  · have e : secVals (ts ++ [t]) = secVals ts ++ [.string (BA t)] := by unfold secVals; rw [List.map_append]; rfl
    rw [e, List.length_append]
    exact ho
  · obtain rfl : gg = b := by simpa [Value.ownBlock] using hb
    rcases hat with h | h
    · exact hv gg h hm
    · have := (hl.turns_lt hm).2
      omega
end
end WalM
end Go.Proofs.YtpeaefeoogcepaaDoor
