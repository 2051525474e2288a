/- SMALL LEMMAS ON MEMORY: a row of bytes that the call owns, read as a string; a block of one cell. -/
import Derived.Test.YtgkclgmekbgjmaaRows
import Derived.WalkKit
import Derived.WalkSpells
import Derived.WalkLawsBesides
import Derived.Lib.Hide
import Derived.Laws.AppendOwnNone
import Derived.Laws.CopyOwn
import Derived.Deep.QuietTactic
import Derived.BigQuiet
import Derived.Deep.RegionWith
import Derived.Deep.RegionHeld3
import Derived.Deep.RegionLaw
import Derived.StillTailTactics
import Derived.Deep.DeepCutAuto
import Derived.Handy
namespace Go.Proofs.Ytgkclgmekbgjmaa
open Go.RowKit Go.Lib

/-- A fact that neither the walk's simp nor its search for contradictions looks into. -/
structure Box (p : Prop) : Prop where
  out : p
theorem box {p : Prop} (h : p) : Box p := ⟨h⟩

/-- One call behind another: neither has turned what was there. -/
theorem below_tr {w w1 w2 : World} (h : Below w.heap.size w w1) (k : Below w1.heap.size w1 w2) : Below w.heap.size w w2 := h.trans (k.mono h.size)

/-- bytes as cells -/
def byteVals (l : List UInt8) : List Value := l.map (fun c => Value.int .u8 (c.toNat : Int))
theorem byteVals_length (l : List UInt8) : (byteVals l).length = l.length := by simp [byteVals]
theorem byteVals_append (l m : List UInt8) : byteVals (l ++ m) = byteVals l ++ byteVals m := by simp [byteVals]
theorem byteVals_one (c : UInt8) : byteVals [c] = [.int .u8 (c.toNat : Int)] := rfl
theorem byteVals_oneCell (l : List UInt8) : ∀ u ∈ byteVals l, u.oneCell' = true := by
  intro u hu
  obtain ⟨_, _, rfl⟩ := List.mem_map.1 hu
  rfl

theorem foldl_push (l : List UInt8) : ∀ s : ByteArray, (l.map (fun c => (c.toNat : Int))).foldl (fun (r : ByteArray) (n : Int) => r.push (UInt8.ofNat n.toNat)) s = ⟨s.data ++ l.toArray⟩ := by
  induction l with
  | nil => intro s; simp
  | cons c l ih =>
    intro s
    simp only [List.map_cons, List.foldl_cons]
    rw [ih]
    simp [ByteArray.push]

/-- string(b), b a row of bytes that the call owns. -/
theorem run_string_of_own {P : Program} {w : World} {base e : Nat} {v : Value} {l : List UInt8} (src dst : TypeId) (h : w.ownsRow base e 1 v l.length (byteVals l))
    (hs : P.underlying src = some (.slice e)) (he : P.underlying e = some (.int .u8)) (hd : P.underlying dst = some .string) :
    (convert src dst v).run P w = .ok (.string ⟨l.toArray⟩) w := by
  rcases h.2 with ⟨rfl, hl⟩ | ⟨g, cap, cur, rfl, hb, hg, hle, hm, hsz, htk⟩
  · have : l = [] := List.eq_nil_of_length_eq_zero hl
    subst this
    rw [run_convert_bytes_string w src dst e none 0 0 hs he hd]
    rfl
  · rw [run_convert_bytes_string w src dst e _ _ _ hs he hd]
    have hc : (loadCells ⟨g, 0, none⟩ l.length).run P w = .ok ((l.map (fun c => (c.toNat : Int))).map (Value.int .u8)).toArray w := by
      have hcells := h.cells (g := g) rfl
      have := run_loadCells_list (P := P) (w := w) ⟨g, 0, none⟩ (byteVals l) hcells
      rw [byteVals_length] at this
      rw [this]
      simp [byteVals]
    rw [run_bytesToString w _ _ _ _ hc, foldl_push]
    have e : ByteArray.empty.data ++ l.toArray = l.toArray := by
      have : ByteArray.empty.data = #[] := rfl
      rw [this, Array.empty_append]
    rw [e]

/-- The bytes l stand at the head of block g, and may be written. -/
def BytesAt (W : World) (g : Nat) (l : List UInt8) : Prop :=
  ∀ j (hj : j < l.length), W.cell? ⟨g, j, none⟩ = some (.int .u8 (l[j].toNat : Int)) ∧ W.frozen? ⟨g, j, none⟩ = false
theorem bytesAt_below {W W' : World} {g : Nat} {l : List UInt8} (h : BytesAt W g l) (hb : Below W.heap.size W W') (hg : g < W.heap.size) : BytesAt W' g l :=
  fun j hj => ⟨(hb.cell (p := ⟨g, j, none⟩) hg).trans (h j hj).1, (hb.frozen (p := ⟨g, j, none⟩) hg).trans (h j hj).2⟩
theorem bytesAt_conv {P : Program} {W : World} {g cap : Nat} {l : List UInt8} (h : BytesAt W g l) (src dst e : TypeId) (hs : P.underlying src = some (.slice e)) (he : P.underlying e = some (.int .u8)) (hd : P.underlying dst = some .string) :
    (convert src dst (.slice (some ⟨g, 0, none⟩) l.length cap)).run P W = .ok (.string ⟨l.toArray⟩) W :=
  run_convert_bytes_back W src dst e ⟨g, 0, none⟩ cap l hs he hd (fun j hj => by rw [Addr.add_lit, Nat.zero_add]; exact (h j hj).1)
theorem bytesAt_new (w : World) (s : ByteArray) (cap : Nat) (e : TypeId) :
    BytesAt (w.alloc (.cells (bytesRow s cap) e ((bytesRow s cap).size, (bytesRow s cap).size + 1))) w.heap.size s.data.toList := by
  intro j hj
  have hh : (w.alloc (.cells (bytesRow s cap) e ((bytesRow s cap).size, (bytesRow s cap).size + 1))).heap[w.heap.size]? = some (.cells (bytesRow s cap) e ((bytesRow s cap).size, (bytesRow s cap).size + 1)) := heap_alloc_new w _
  have hj' : j < s.data.size := by simpa using hj
  have hss : s.data.size = s.size := rfl
  have hsz : j < (bytesRow s cap).size := by simp only [bytesRow, Array.size_append, Array.size_map, Array.size_replicate]; omega
  refine ⟨?_, ?_⟩
  · rw [World.cell?_alloc_mark]
    unfold bytesRow
    rw [Array.getElem?_append_left (by simpa using hj'), Array.getElem?_map, Array.getElem?_eq_getElem hj']
    simp
  · simp only [World.frozen?, hh]
    simp
    omega
theorem bytesAt_set {W : World} {g p : Nat} {l : List UInt8} (h : BytesAt W g l) (a : UInt8) (hp : p < l.length) : BytesAt (W.setCell ⟨g, p, none⟩ (.int .u8 (a.toNat : Int))) g (l.set p a) := by
  intro j hj
  have hj' : j < l.length := by simpa using hj
  obtain ⟨c, f⟩ := h j hj'
  obtain ⟨cp, fp⟩ := h p hp
  refine ⟨?_, ?_⟩
  · by_cases e : p = j
    · subst e
      rw [World.cell?_setCell_same (u := .int .u8 (l[p].toNat : Int)) (h := cp)]
      simp
    · rw [World.cell?_setCell_other (h := by intro h; injection h with _ h2; exact e h2), c, List.getElem_set_ne e]
  · simpa using f

theorem ownsRow_shape {w : World} {B e size n : Nat} {v : Value} {xs : List Value} (h : w.ownsRow B e size v n xs) (hv : ¬ v = .slice none 0 0) :
    ∃ g cap, v = .slice (some ⟨g, 0, none⟩) n cap ∧ B ≤ g ∧ g < w.heap.size ∧ n ≤ cap := by
  rcases h.2 with ⟨h1, _⟩ | ⟨g, cap, cur, h1, h2, h3, h4, _⟩
  · exact absurd h1 hv
  · exact ⟨g, cap, h1, h2, (Array.getElem?_eq_some_iff.1 h3).1, h4⟩

theorem ownsRow_mono {w : World} {B B' e size n : Nat} {v : Value} {xs : List Value} (h : w.ownsRow B e size v n xs) (hB : B' ≤ B) : w.ownsRow B' e size v n xs := by
  refine ⟨h.1, ?_⟩
  rcases h.2 with h1 | ⟨g, cap, cur, h1, h2, h3⟩
  · exact Or.inl h1
  · exact Or.inr ⟨g, cap, cur, h1, Nat.le_trans hB h2, h3⟩

/-- What is owned stays so behind a call that turns nothing that was there. -/
theorem ownsRow_below {w w' : World} {B e size n : Nat} {v : Value} {xs : List Value} (h : w.ownsRow B e size v n xs) (hb : Below w.heap.size w w') : w'.ownsRow B e size v n xs := by
  refine ⟨h.1, ?_⟩
  rcases h.2 with h1 | ⟨g, cap, cur, h1, h2, h3, h4⟩
  · exact Or.inl h1
  · exact Or.inr ⟨g, cap, cur, h1, h2, (hb.block g (Array.getElem?_eq_some_iff.1 h3).1).trans h3, h4⟩

/-- The cells of a block that was just laid. -/
theorem cells_new (w : World) (xs : List Value) (e : TypeId) : ∀ j u, xs[j]? = some u → (w.alloc (.cells xs.toArray e)).cell? ((⟨w.heap.size, 0, none⟩ : Addr).add j) = some u := by
  intro j u hu
  rw [Addr.add_lit, Nat.zero_add, cell_of_row _ _ _ xs.toArray e (0, 0) (heap_alloc_new w _)]
  simpa using hu
end Go.Proofs.Ytgkclgmekbgjmaa
