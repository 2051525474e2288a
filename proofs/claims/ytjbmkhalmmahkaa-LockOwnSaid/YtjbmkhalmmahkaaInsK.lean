/- copy of elements of several cells; what slices.Insert leaves of a row. -/
import Derived.Test.YtjbmkhalmmahkaaHeap
import Derived.Shelf.Spec.SlicesInsert
import Derived.Laws.CopyRow
import Derived.Lib.AppendZerosOnto
import Derived.Deep.AppendLies
namespace Go.Proofs.Ytjbmkhalmmahkaa
open Go.RowKit Go.Lib

/-- A list with a part written over. -/
def spl (L : List Value) (o : Nat) (cs : List Value) : List Value := L.take o ++ cs ++ L.drop (o + cs.length)
theorem spl_len {L : List Value} {o : Nat} {cs : List Value} (h : o + cs.length ≤ L.length) : (spl L o cs).length = L.length := by simp [spl]; omega
theorem Blk.row {w : World} {b t : Nat} {C : List Value} (h : Blk w b t C) (C' : List Value) : Blk (w.setRow b C'.toArray) b t C' := setRow_heap w b _ _ t (0, 0) h
theorem grownTr {w a b : World} {row : Option Nat} (h : w.grownBy a row) (k : a.grownBy b row) : w.grownBy b row :=
  ⟨k.os.trans h.os, k.tape.trans h.tape, k.output.trans h.output, Nat.le_trans h.size k.size, fun q h1 h2 => (k.block q (Nat.lt_of_lt_of_le h1 h.size) h2).trans (h.block q h1 h2)⟩
theorem grown_row (w : World) (b : Nat) (C : Array Value) : w.grownBy (w.setRow b C) (some b) :=
  ⟨rfl, rfl, rfl, by simp [World.setRow], fun k _ hk => setRow_other w b k C (fun e => hk (by rw [e]))⟩
theorem run_copy_wide {P : Program} (w : World) (dT sT ty elem : TypeId) (sz : Nat) (g o dLen dCap : Nat) (a : Addr) (sLen sCap : Nat) (cur cs : List Value) (t m : Nat)
    (hu : P.underlying dT = some (.slice elem)) (hs : (P.info? elem).map (·.size) = some sz) (hg : Blk w g t cur) (hm : Nat.min sLen dLen = m) (hl : cs.length = m * sz)
    (hsrc : ∀ j v, cs[j]? = some v → w.cell? (a.add j) = some v) (hfit : o + cs.length ≤ cur.length) (h1 : ∀ v ∈ cs, v.oneCell' = true) :
    (Builtin.copy_ #[dT, sT] ty #[.slice (some ⟨g, o, none⟩) dLen dCap, .slice (some a) sLen sCap]).run P w = .ok (goInt m) (w.setRow g (spl cur o cs).toArray) := by
  have hload := run_loadCells_list (P := P) w a cs hsrc
  rw [hl] at hload
  have hst := run_storeCells_at (P := P) g o t cs 0 cur.toArray w hg (by simpa using hfit) h1
  cases hq : P.info? elem with
  | none => simp [hq] at hs
  | some i =>
    have hi : i.size = sz := by simpa [hq] using hs
    subst hm
    simp [Builtin.copy_, run_underlying hu, Builtin.lenOf, Builtin.firstCells, sizeOf, typeInfo, hq, hi, hload, hst, spl]
/-- A block that begins with a row is an own row. -/
theorem Blk.owns {w : World} {b t B n cap sz : Nat} {C xs : List Value} (h : Blk w b t C) (hB : B ≤ b) (hn : n ≤ cap) (hcm : cap ≤ maxLen) (hC : C.length = cap * sz) (hx : C.take (n * sz) = xs) : w.ownsRow B t sz (.slice (some ⟨b, 0, none⟩) n cap) n xs := by
  have hle : n * sz ≤ cap * sz := Nat.mul_le_mul_right sz hn
  refine ⟨by rw [← hx, List.length_take, hC]; omega, Or.inr ⟨b, cap, C.toArray, rfl, hB, h, hn, hcm, by simpa using hC, by simpa using hx⟩⟩
/-- Of an own row: the block. -/
theorem owns_blk {w : World} {B t sz g n cap : Nat} {xs : List Value} (h : w.ownsRow B t sz (.slice (some ⟨g, 0, none⟩) n cap) n xs) : ∃ C : List Value, Blk w g t C ∧ B ≤ g ∧ n ≤ cap ∧ cap ≤ maxLen ∧ C.length = cap * sz ∧ C.take (n * sz) = xs := by
  rcases h.2 with ⟨h1, _⟩ | ⟨g', cap', cur, h1, h2, h3, h4, h5, h6, h7⟩
  · cases h1
  · injection h1 with h1 _ hc
    injection h1 with h1
    injection h1 with h1
    subst h1 hc
    exact ⟨cur.toList, h3, h2, h4, h5, by simpa using h6, h7⟩
theorem spl_get {L cs : List Value} {o : Nat} (h : o + cs.length ≤ L.length) (j : Nat) : (spl L o cs)[j]? = if j < o then L[j]? else if j < o + cs.length then cs[j - o]? else L[j]? := by
  unfold spl
  split
  · rename_i h1
    rw [List.append_assoc, List.getElem?_append_left (by rw [List.length_take]; omega), List.getElem?_take_of_lt h1]
  · rename_i h1
    split
    · rename_i h2
      rw [List.getElem?_append_left (by rw [List.length_append, List.length_take]; omega), List.getElem?_append_right (by rw [List.length_take]; omega)]
      congr 1
      rw [List.length_take]; omega
    · rename_i h2
      rw [List.getElem?_append_right (by rw [List.length_append, List.length_take]; omega), List.getElem?_drop]
      congr 1
      rw [List.length_append, List.length_take]; omega
/-- The two copies of Insert: what the first n + 1 elements are. -/
theorem ins_cells {C xs news : List Value} {n i sz : Nat} (hi : i ≤ n) (hC : C.take (n * sz) = xs) (hxl : xs.length = n * sz) (hlen : (n + 1) * sz ≤ C.length) (hnl : news.length = sz) :
    (spl (spl C ((i + 1) * sz) (xs.drop (i * sz))) (i * sz) news).take ((n + 1) * sz) = xs.take (i * sz) ++ news ++ xs.drop (i * sz) := by
  have h1 : i * sz ≤ n * sz := Nat.mul_le_mul_right sz hi
  have h2 : (i + 1) * sz = i * sz + sz := Nat.succ_mul i sz
  have h3 : (n + 1) * sz = n * sz + sz := Nat.succ_mul n sz
  have hdl : (xs.drop (i * sz)).length = n * sz - i * sz := by rw [List.length_drop, hxl]
  apply List.ext_getElem?
  intro j
  have hl1 : (spl C ((i + 1) * sz) (xs.drop (i * sz))).length = C.length := spl_len (by rw [hdl]; omega)
  have hg : ∀ k, k < n * sz → xs[k]? = C[k]? := fun k hk => by rw [← hC, List.getElem?_take_of_lt hk]
  by_cases hj : j < (n + 1) * sz
  · rw [List.getElem?_take_of_lt hj, spl_get (by rw [hl1]; omega), spl_get (by rw [hdl]; omega), hdl, hnl]
    by_cases ha : j < i * sz
    · rw [if_pos ha, if_pos (by omega), List.append_assoc, List.getElem?_append_left (by rw [List.length_take]; omega), List.getElem?_take_of_lt ha, hg j (by omega)]
    · rw [if_neg ha]
      by_cases hb : j < i * sz + sz
      · rw [if_pos hb, List.getElem?_append_left (by rw [List.length_append, List.length_take]; omega), List.getElem?_append_right (by rw [List.length_take]; omega)]
        congr 1
        rw [List.length_take]; omega
      · rw [if_neg hb, if_neg (by omega), if_pos (by omega), List.getElem?_append_right (by rw [List.length_append, List.length_take]; omega)]
        congr 1
        rw [List.length_append, List.length_take]; omega
  · rw [List.getElem?_eq_none (by rw [List.length_take]; omega), List.getElem?_eq_none (by simp only [List.length_append, List.length_take, List.length_drop]; omega)]
/-- append does not ask for the second slice's own type. -/
theorem run_append_two {P : Program} (t t' ty ty' : TypeId) (e e' : TypeId) (ht : P.underlying t = some (.slice e)) (ht' : P.underlying t' = some (.slice e')) (w : World) (x y : Value) : (Builtin.append_ #[t, t'] ty #[x, y]).run P w = (Builtin.append_ #[t, t] ty' #[x, y]).run P w := by
  cases x <;> simp [Builtin.append_, run_underlying ht, run_underlying ht']
end Go.Proofs.Ytjbmkhalmmahkaa
