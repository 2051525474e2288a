/- A row that is appended to and stored back, in a region that draws its order. -/
import Derived.Test.YtjbmkhalmmahkaaHeap
import Derived.Test.YtjbmkhalmmahkaaDagV
namespace Go.Proofs.Ytjbmkhalmmahkaa
open Go.RowKit Go.Lib

/-- va is the row with news behind it, in world w1. -/
def PutR.Got (w0 : World) (row : Value) (base e size n : Nat) (xs news : List Value) (va : Value) (w1 : World) : Prop :=
  ∃ g cap, va = .slice (some ⟨g, 0, none⟩) (n + 1) cap ∧ w1.ownsRow base e size va (n + 1) (xs ++ news) ∧ (row.ownBlock = some g ∨ w0.heap.size ≤ g) ∧ w0.grownBy w1 row.ownBlock
/-- bs: is x laid? ap: appended? st: stored? -/
structure PutR (w0 : World) (row : Value) (base e size n : Nat) (xs : List Value) (p : Addr) (news : List Value) (bs ap st : Bool) (vb va : Value) (wx : World) : Prop where
  g : st = false → w0.grownBy wx row.ownBlock
  a : ap = false → st = false → Below w0.heap.size w0 wx
  z : bs = false → ap = false → st = false → wx.heap.size = w0.heap.size
  b : bs = true → vb = .slice (some ⟨w0.heap.size, 0, none⟩) 1 1
  k : bs = true → ap = false → st = false → Blk wx w0.heap.size e news
  c : ap = true → st = false → PutR.Got w0 row base e size n xs news va wx
  d : st = true → ∃ w1, wx = w1.setCell p va ∧ PutR.Got w0 row base e size n xs news va w1
section
variable {w0 wx : World} {row : Value} {base e size n : Nat} {xs news : List Value} {p : Addr} {vb va : Value}
theorem PutR.start : PutR w0 row base e size n xs p news false false false vb va w0.drew :=
  ⟨fun _ => ⟨rfl, rfl, rfl, Nat.le_refl _, fun _ _ _ => rfl⟩, fun _ _ => (Below.refl _ _).drew, fun _ _ _ => rfl, (fun h => by cases h), (fun h => by cases h), (fun h => by cases h), (fun h => by cases h)⟩
theorem PutR.lay (h : PutR w0 row base e size n xs p news false false false vb va wx) : PutR w0 row base e size n xs p news true false false (.slice (some ⟨wx.heap.size, 0, none⟩) 1 1) va (wx.alloc (.cells news.toArray e)) := by
  have hz := h.z rfl rfl rfl
  have hb : Below w0.heap.size w0 (wx.alloc (.cells news.toArray e)) := (h.a rfl rfl).alloc (by omega) _
  exact ⟨fun _ => ⟨hb.os, hb.tape, hb.output, hb.size, fun k hk _ => hb.block k hk⟩, fun _ _ => hb, (fun h => by cases h), fun _ => by rw [hz], fun _ _ _ => Blk.new' hz _ _, (fun h => by cases h), (fun h => by cases h)⟩
theorem PutR.app (h : PutR w0 row base e size n xs p news true false false vb va wx) {w' : World} {g cap : Nat} (ho : w'.ownsRow base e size (.slice (some ⟨g, 0, none⟩) (n + 1) cap) (n + 1) (xs ++ news)) (hg : wx.grownBy w' row.ownBlock) (hat : row.ownBlock = some g ∨ g = wx.heap.size) :
    PutR w0 row base e size n xs p news true true false vb (.slice (some ⟨g, 0, none⟩) (n + 1) cap) w' := by
  have h1 := h.g rfl
  have hG : w0.grownBy w' row.ownBlock := ⟨hg.os.trans h1.os, hg.tape.trans h1.tape, hg.output.trans h1.output, Nat.le_trans h1.size hg.size, fun k hk hne => (hg.block k (Nat.lt_of_lt_of_le hk h1.size) hne).trans (h1.block k hk hne)⟩
  exact ⟨fun _ => hG, (fun h => by cases h), (fun h => by cases h), h.b, (fun _ h => by cases h), fun _ _ => ⟨g, cap, rfl, ho, hat.imp id (fun e => by rw [e]; exact h1.size), hG⟩, (fun h => by cases h)⟩
theorem PutR.put (h : PutR w0 row base e size n xs p news true true false vb va wx) : PutR w0 row base e size n xs p news true true true vb va (wx.setCell p va) :=
  ⟨(fun h => by cases h), (fun h => by cases h), (fun h => by cases h), h.b, (fun _ h => by cases h), (fun _ h => by cases h), fun _ => ⟨wx, rfl, h.c rfl rfl⟩⟩
end
end Go.Proofs.Ytjbmkhalmmahkaa
