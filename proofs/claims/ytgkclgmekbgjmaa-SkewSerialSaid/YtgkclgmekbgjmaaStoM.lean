/- Stories: plain, and as they lie in memory. -/
import Derived.Test.YtgkclgmekbgjmaaEg
import Derived.Test.YtgkclgmekbgjmaaInts
namespace Go.Proofs.Ytgkclgmekbgjmaa
open Go.RowKit Go.Lib

/-- A tale, with the place of its reads; a read: the item, and from whom. -/
structure TaleL where
  tx : Int
  ga : Option Addr
  gc : Nat
  gs : List EgM
  deriving Inhabited
/-- Who wrote an item, in order, with the place of the list. -/
structure VerL where
  va : Option Addr
  vc : Nat
  vs : List Int
  deriving Inhabited
structure StoL where
  tls : List TaleL
  ta : Option Addr
  tc : Nat
  vrs : List VerL
  ra : Option Addr
  rc : Nat
def TaleL.cells (t : TaleL) : List Value := [.int .i64 t.tx, .slice t.ga t.gs.length t.gc]
def StoL.cells (s : StoL) : List Value := [.slice s.ta s.tls.length s.tc, .slice s.ra s.vrs.length s.rc]
def StoL.val (s : StoL) : Value := .agg s.cells.toArray
def TalesAt (w : World) (ao : Option Addr) (l : List TaleL) : Prop :=
  l = [] ∨ ∃ b off, ao = some ⟨b, off, none⟩ ∧ b < w.heap.size ∧ ∀ k (h : k < l.length), w.cell? ⟨b, off + k * 2, none⟩ = some (.int .i64 l[k].tx) ∧ w.cell? ⟨b, off + k * 2 + 1, none⟩ = some (.slice l[k].ga l[k].gs.length l[k].gc)
theorem TalesAt.below {B : Nat} {w w' : World} {ao : Option Addr} {l : List TaleL} (h : TalesAt w ao l) (hb : Below B w w') (hB : w.heap.size ≤ B) : TalesAt w' ao l := by
  rcases h with h | ⟨b, off, h1, h2, h3⟩
  · exact Or.inl h
  · refine Or.inr ⟨b, off, h1, Nat.lt_of_lt_of_le h2 hb.size, fun k hk => ?_⟩
    obtain ⟨c0, c1⟩ := h3 k hk
    have hl := Nat.lt_of_lt_of_le h2 hB
    exact ⟨(hb.cell (p := ⟨b, off + k * 2, none⟩) hl).trans c0, (hb.cell (p := ⟨b, off + k * 2 + 1, none⟩) hl).trans c1⟩
structure StoAt (w : World) (s : StoL) : Prop where
  tl : TalesAt w s.ta s.tls
  gs : ∀ t ∈ s.tls, EgsAt w t.ga t.gs
  vr : s.vrs = [] ∨ ∃ b off, s.ra = some ⟨b, off, none⟩ ∧ b < w.heap.size ∧ ∀ k (h : k < s.vrs.length), w.cell? ⟨b, off + k, none⟩ = some (.slice s.vrs[k].va s.vrs[k].vs.length s.vrs[k].vc)
  vs : ∀ v ∈ s.vrs, IntsAt w v.va v.vs
  vc : ∀ v ∈ s.vrs, v.vs.length ≤ v.vc ∧ v.vc ≤ 9223372036854775807 ∧ v.vs.length ≤ 9000000000000000
  gl : ∀ t ∈ s.tls, t.gs.length ≤ 9000000000000000
  tn : s.tls.length ≤ 9000000000000000 ∧ s.vrs.length ≤ 9000000000000000
theorem StoAt.below {B : Nat} {w w' : World} {s : StoL} (h : StoAt w s) (hb : Below B w w') (hB : w.heap.size ≤ B) : StoAt w' s := by
  refine ⟨h.tl.below hb hB, fun t ht => (h.gs t ht).below hb hB, ?_, fun v hv => (h.vs v hv).below hb hB, h.vc, h.gl, h.tn⟩
  · rcases h.vr with h | ⟨b, off, h1, h2, h3⟩
    · exact Or.inl h
    · exact Or.inr ⟨b, off, h1, Nat.lt_of_lt_of_le h2 hb.size, fun k hk => (hb.cell (p := ⟨b, off + k, none⟩) (Nat.lt_of_lt_of_le h2 hB)).trans (h3 k hk)⟩

/-- Which stories are right. -/
def StoL.GotOk (s : StoL) (tx : Int) (g : EgM) : Prop := 0 ≤ g.frm ∧ g.frm < s.vrs.length ∧ g.to_ ≠ tx ∧ (g.to_ = -1 ∨ g.to_ ∈ (s.vrs[g.frm.toNat]!).vs)
def StoL.TaleOk (s : StoL) (i : Nat) : Prop := 0 ≤ (s.tls[i]!).tx ∧ (s.tls[i]!).tx < 12 ∧ (0 < i → (s.tls[i - 1]!).tx < (s.tls[i]!).tx) ∧ ∀ g ∈ (s.tls[i]!).gs, s.GotOk (s.tls[i]!).tx g
def StoL.WrOk (s : StoL) (v : VerL) (i : Nat) : Prop := ¬ v.vs[i]! ∈ v.vs.take i ∧ ∃ t ∈ s.tls, t.tx = v.vs[i]!
def StoL.RowOk (s : StoL) (v : VerL) : Prop := ∀ i, i < v.vs.length → s.WrOk v i
def StoL.Ok (s : StoL) : Prop := s.tls.length ≤ 12 ∧ s.vrs.length ≤ 20 ∧ (∀ i, i < s.tls.length → s.TaleOk i) ∧ ∀ k, k < s.vrs.length → s.RowOk (s.vrs[k]!)
/-- What order.Check answers. -/
def StoL.CkPost (s : StoL) (w : World) (e : Ending) (w' : World) : Prop := Below w.heap.size w w' ∧ ∃ c : Int, e = .returned (.int .i64 c) ∧ (c = 0 ↔ s.Ok) ∧ c ≠ 11
end Go.Proofs.Ytgkclgmekbgjmaa
