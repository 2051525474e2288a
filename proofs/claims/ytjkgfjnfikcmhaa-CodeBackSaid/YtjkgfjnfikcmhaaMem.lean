/- SMALL LEMMAS ON MEMORY: a row of bytes that the call owns, read as a string; a block of one cell. -/
import Derived.Test.YtjkgfjnfikcmhaaRows
import Derived.WalkKit
import Derived.WalkSpells
import Derived.WalkLawsBesides
import Derived.Lib.Hide
import Derived.Laws.AppendOwnNone
import Derived.Laws.CopyOwn
import Derived.Deep.QuietTactic
import Derived.BigQuiet
import Derived.Deep.RegionWith
import Derived.Deep.RegionHeld3
import Derived.Deep.RegionLaw
import Derived.StillTailTactics
import Derived.Deep.DeepCutAuto
import Derived.Handy
namespace Go.Proofs.Ytjkgfjnfikcmhaa
open Go.RowKit Go.Lib

/-- A fact that neither the walk's simp nor its search for contradictions looks into. -/
structure Box (p : Prop) : Prop where
  out : p
theorem box {p : Prop} (h : p) : Box p := ⟨h⟩

/-- One call behind another: neither has turned what was there. -/
theorem below_tr {w w1 w2 : World} (h : Below w.heap.size w w1) (k : Below w1.heap.size w1 w2) : Below w.heap.size w w2 := h.trans (k.mono h.size)

/-- bytes as cells -/
def byteVals (l : List UInt8) : List Value := l.map (fun c => Value.int .u8 (c.toNat : Int))
theorem byteVals_length (l : List UInt8) : (byteVals l).length = l.length := by simp [byteVals]
theorem byteVals_append (l m : List UInt8) : byteVals (l ++ m) = byteVals l ++ byteVals m := by simp [byteVals]
theorem byteVals_one (c : UInt8) : byteVals [c] = [.int .u8 (c.toNat : Int)] := rfl
theorem byteVals_oneCell (l : List UInt8) : ∀ u ∈ byteVals l, u.oneCell' = true := by
  intro u hu
  obtain ⟨_, _, rfl⟩ := List.mem_map.1 hu
  rfl

theorem foldl_push (l : List UInt8) : ∀ s : ByteArray, (l.map (fun c => (c.toNat : Int))).foldl (fun (r : ByteArray) (n : Int) => r.push (UInt8.ofNat n.toNat)) s = ⟨s.data ++ l.toArray⟩ := by
  induction l with
  | nil => intro s; simp
  | cons c l ih =>
    intro s
    simp only [List.map_cons, List.foldl_cons]
    rw [ih]
    simp [ByteArray.push]

/-- string(b), b a row of bytes that the call owns. -/
theorem run_string_of_own {P : Program} {w : World} {base e : Nat} {v : Value} {l : List UInt8} (src dst : TypeId) (h : w.ownsRow base e 1 v l.length (byteVals l))
    (hs : P.underlying src = some (.slice e)) (he : P.underlying e = some (.int .u8)) (hd : P.underlying dst = some .string) :
    (convert src dst v).run P w = .ok (.string ⟨l.toArray⟩) w := by
  rcases h.2 with ⟨rfl, hl⟩ | ⟨g, cap, cur, rfl, hb, hg, hle, hm, hsz, htk⟩
  · have : l = [] := List.eq_nil_of_length_eq_zero hl
    subst this
    rw [run_convert_bytes_string w src dst e none 0 0 hs he hd]
    rfl
  · rw [run_convert_bytes_string w src dst e _ _ _ hs he hd]
    have hc : (loadCells ⟨g, 0, none⟩ l.length).run P w = .ok ((l.map (fun c => (c.toNat : Int))).map (Value.int .u8)).toArray w := by
      have hcells := h.cells (g := g) rfl
      have := run_loadCells_list (P := P) (w := w) ⟨g, 0, none⟩ (byteVals l) hcells
      rw [byteVals_length] at this
      rw [this]
      simp [byteVals]
    rw [run_bytesToString w _ _ _ _ hc, foldl_push]
    have e : ByteArray.empty.data ++ l.toArray = l.toArray := by
      have : ByteArray.empty.data = #[] := rfl
      rw [this, Array.empty_append]
    rw [e]
end Go.Proofs.Ytjkgfjnfikcmhaa
