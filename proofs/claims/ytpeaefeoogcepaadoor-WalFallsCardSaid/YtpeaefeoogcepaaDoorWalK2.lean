/- A log and a row beside it: Fuse, Crash, Open. -/
import Derived.Test.YtpeaefeoogcepaaDoorWalK
import Derived.Test.YtpeaefeoogcepaaDoorWalI6
import Derived.Test.YtpeaefeoogcepaaDoorSectC
import Derived.Test.YtpeaefeoogcepaaDoorStrEq
namespace Go.Proofs.YtpeaefeoogcepaaDoor
open Go.RowKit Go.Lib
open WalM

namespace WalM
theorem own_ne {w : World} {B1 B2 e1 e2 s1 s2 n1 n2 b : Nat} {v1 v2 : Value} {x1 x2 : List Value} (h1 : w.ownsRow B1 e1 s1 v1 n1 x1) (h2 : w.ownsRow B2 e2 s2 v2 n2 x2) (he : e1 ≠ e2) (hb1 : v1.ownBlock = some b) (hb2 : v2.ownBlock = some b) : False := by
  rcases h1.2 with ⟨rfl, _⟩ | ⟨g1, c1, cur1, rfl, _, hg1, _⟩
  · simp [Value.ownBlock] at hb1
  · rcases h2.2 with ⟨rfl, _⟩ | ⟨g2, c2, cur2, rfl, _, hg2, _⟩
    · simp [Value.ownBlock] at hb2
    · simp [Value.ownBlock] at hb1 hb2
      subst hb1; subst hb2
      rw [hg1] at hg2
      simp at hg2
      exact he hg2.2
theorem own_base {w : World} {B B' e s n : Nat} {v : Value} {xs : List Value} (h : w.ownsRow B e s v n xs) (hb : B' ≤ B) : w.ownsRow B' e s v n xs := by
  refine ⟨h.1, ?_⟩
  rcases h.2 with h1 | ⟨g, cap, cur, h1, h2, h3⟩
  · exact Or.inl h1
  · exact Or.inr ⟨g, cap, cur, h1, Nat.le_trans hb h2, h3⟩
theorem strs_own2 {w : World} {B : Nat} {v : Value} {ts : List (List UInt8)} (h : w.ownsRow B 9 1 v ts.length (secVals ts)) : ∃ (g : Option Addr) (gc : Nat), v = .slice g ts.length gc ∧ ts.length ≤ gc := by
  rcases h.2 with ⟨h, h0⟩ | ⟨g, cap, cur, h, _, _, hc, _⟩
  · exact ⟨none, 0, by rw [h, h0], by omega⟩
  · exact ⟨_, _, h, hc⟩
theorem strs_at2 {w : World} {B : Nat} {g : Option Addr} {n c : Nat} {ts : List (List UInt8)} (h : w.ownsRow B 9 1 (.slice g n c) ts.length (secVals ts)) : StrsAt w g (ts.map BA) := by
  rcases h.2 with ⟨h1, h0⟩ | ⟨g', cap, cur, h1, hlt, hg, _⟩
  · left
    rw [List.length_eq_zero_iff.1 h0]; rfl
  · right
    injection h1 with h1 h2 h3
    subst h1 h2 h3
    refine ⟨g', 0, rfl, (Array.getElem?_eq_some_iff.1 hg).1, fun k hk => ?_⟩
    rw [List.length_map] at hk
    have := h.cellAt k (by omega)
    rw [Nat.zero_add, this]
    unfold secVals
    rw [List.getElem?_map, List.getElem?_eq_getElem hk, List.getElem_map]
    rfl
section
variable {w w1 w2 : World} {base D Lb B : Nat} {vs ve vl vl1 v : Value} {d d1 : DiskM} {l l1 : LogM} {ts : List (List UInt8)}
theorem LogRow.fused (h : LogRow w base D Lb vs ve vl d l B v ts) (m : Int) (ha : SectM.At w1 base D vs ve vl (SectM.fuse d m)) (hk : KeptS (SectM.Mine D vs ve vl) w w1) : LogRow w1 base D Lb vs ve vl (SectM.fuse d m) l B v ts :=
  ⟨⟨ha, SectM.fuse_good h.log.good m, hk.blk h.log.log h.log.ap, h.log.ap, h.log.lb, h.log.n1, h.log.n2, h.log.late, Nat.le_trans h.log.bs hk.size⟩, hk.own h.own (fun b hb hm => h.ap b hb (Or.inr hm)), h.ap⟩
/-- A row of one text is laid beside a log. -/
theorem LogRow.lit {w : World} (h : LogIn w base D vs ve vl d 24 Lb l) (t : List UInt8) (hB : B ≤ w.heap.size) : LogRow (w.alloc (.cells #[.string (BA t)] 9)) base D Lb vs ve vl d l B (.slice (some ⟨w.heap.size, 0, none⟩) 1 1) [t] :=
  ⟨LogIn.below h ((Below.refl _ _).alloc (Nat.le_refl _) _), World.ownsRow_lit (base := B) (e := 9) (size := 1) w #[.string (BA t)] 1 hB (by decide) rfl, fun b hb hm => by
    have := (h.turns_lt hm).2
    simp [Value.ownBlock] at hb
    omega⟩
theorem Mine.back {w : World} (h : SectM.Mv w base D vs ve vl d1 vl1 w1) {b : Nat} (hb : b < w.heap.size) (hm : SectM.Mine D vs ve vl1 b) : SectM.Mine D vs ve vl b := by
  rcases hm with hm | hm | hm | hm
  · exact Or.inl hm
  · exact Or.inr (Or.inl hm)
  · exact Or.inr (Or.inr (Or.inl hm))
  · rcases h.own b hm with h1 | h1
    · omega
    · exact Or.inr (Or.inr (Or.inr h1))
/-- Open makes a log, and tells texts in a row of the law's own. -/
theorem OpenP.row {d2 : DiskM} {l2 : LogM} {e : Ending} {i : Int} (ha : SectM.At w base D vs ve vl d) (hbs : base ≤ w.heap.size) (h : OpenP w base D vs ve vl (d2, some (l2, ts), i) e w1) (hg : SectM.Good 24 d2) (hl : d2.late.length ≤ 1000000) (hB : B ≤ w.heap.size) :
    ∃ vl2 Lb v, e = .returned (.tuple #[.pointer (some ⟨Lb, 0, none⟩), v, .int .i64 i]) ∧ LogRow w1 base D Lb vs ve vl2 d2 l2 B v ts ∧ KeptS (SectM.Mine D vs ve vl) w w1 := by
  obtain ⟨vl2, hm, Lb, v, rfl, h1, h2, h3, h4⟩ := h
  refine ⟨vl2, Lb, v, rfl, ⟨⟨hm.at_, hg, h2, h3, by omega, by omega, by omega, hl, Nat.le_trans hbs hm.kept.size⟩, own_base h4 hB, fun b hb hx => ?_⟩, hm.kept⟩
  have hlt := (h4.lt b hb).1
  rcases hx with rfl | rfl | hx | hx | hx
  · exact h2.ne_own h4 (by decide) hb
  · have := ha.blk.lt; omega
  · have := (ha.safe.lt b hx).2; omega
  · have := (ha.seen.lt b hx).2; omega
  · exact own_ne h4 hm.at_.late (by decide) hb hx
end
/-- The law's own state, laid. -/
structure FallAt (w : World) (B D Lb : Nat) (vs ve vl v : Value) (d : DiskM) (l : LogM) (a : LawS) : Prop where
  inv : InvG d l a
  row : LogRow w B D Lb vs ve vl d l B v a.all
section
variable {w w1 : World} {B D Lb : Nat} {vs ve vl v : Value} {d : DiskM} {l : LogM} {a : LawS}
theorem FallAt.lt (h : FallAt w B D Lb vs ve vl v d l a) : a.all.length ≤ 9223372036854775807 := by
  rcases h.row.own.2 with ⟨_, h0⟩ | ⟨_, cap, _, _, _, _, h1, h2, _⟩
  · omega
  · unfold maxLen at h2; omega
theorem FallAt.not_turns {X : Nat} {C : List Value} (h : FallAt w B D Lb vs ve vl v d l a) (hx : Blk w X 38 C) : ¬ Turns D vs ve vl Lb X := by
  have ha := h.row.log.at_
  rintro (e | e | e | e | e)
  · exact hx.ne h.row.log.log (by decide) e
  · exact hx.ne ha.blk (by decide) e
  · exact hx.ne_own ha.safe (by decide) e
  · exact hx.ne_own ha.seen (by decide) e
  · exact hx.ne_own ha.late (by decide) e
theorem FallAt.below (h : FallAt w B D Lb vs ve vl v d l a) (hb : Below w.heap.size w w1) : FallAt w1 B D Lb vs ve vl v d l a := ⟨h.inv, h.row.below hb⟩
end
end WalM
end Go.Proofs.YtpeaefeoogcepaaDoor
