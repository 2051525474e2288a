/- The story that order.Of makes: plain, and in memory. -/
import Derived.Test.YtgkclgmekbgjmaaHeap
import Derived.Test.YtgkclgmekbgjmaaDagV
import Derived.Test.YtgkclgmekbgjmaaStoM
import Derived.Test.YtgkclgmekbgjmaaRunM
import Derived.Test.YtgkclgmekbgjmaaSnapM
import Derived.Maps.RangeRun
import Derived.WideKeyRuns
import Derived.Test.YtgkclgmekbgjmaaSkL
import Derived.Test.YtgkclgmekbgjmaaDidA
import Derived.Test.YtgkclgmekbgjmaaIntIdx
import Derived.Test.YtgkclgmekbgjmaaStoC
import Derived.Test.YtgkclgmekbgjmaaMake
import Derived.Test.YtgkclgmekbgjmaaSortOwn
import Derived.Test.YtgkclgmekbgjmaaShCm
import Derived.Test.YtgkclgmekbgjmaaShTa
namespace Go.Proofs.Ytgkclgmekbgjmaa
section
open Go.RowKit Go.Lib

/-- va is the row with news behind it, in world w1. -/
def PutR.Got (w0 : World) (row : Value) (base e size n : Nat) (xs news : List Value) (va : Value) (w1 : World) : Prop :=
  ∃ g cap, va = .slice (some ⟨g, 0, none⟩) (n + 1) cap ∧ w1.ownsRow base e size va (n + 1) (xs ++ news) ∧ (row.ownBlock = some g ∨ w0.heap.size ≤ g) ∧ w0.grownBy w1 row.ownBlock
/-- bs: is x laid? ap: appended? st: stored? -/
structure PutR (w0 : World) (row : Value) (base e size n : Nat) (xs : List Value) (p : Addr) (news : List Value) (bs ap st : Bool) (vb va : Value) (wx : World) : Prop where
  g : st = false → w0.grownBy wx row.ownBlock
  a : ap = false → st = false → Below w0.heap.size w0 wx
  z : bs = false → ap = false → st = false → wx.heap.size = w0.heap.size
  b : bs = true → vb = .slice (some ⟨w0.heap.size, 0, none⟩) 1 1
  k : bs = true → ap = false → st = false → Blk wx w0.heap.size e news
  c : ap = true → st = false → PutR.Got w0 row base e size n xs news va wx
  d : st = true → ∃ w1, wx = w1.setCell p va ∧ PutR.Got w0 row base e size n xs news va w1
section
variable {w0 wx : World} {row : Value} {base e size n : Nat} {xs news : List Value} {p : Addr} {vb va : Value}
theorem PutR.start : PutR w0 row base e size n xs p news false false false vb va w0.drew :=
  ⟨fun _ => ⟨rfl, rfl, rfl, Nat.le_refl _, fun _ _ _ => rfl⟩, fun _ _ => (Below.refl _ _).drew, fun _ _ _ => rfl, (fun h => by cases h), (fun h => by cases h), (fun h => by cases h), (fun h => by cases h)⟩
theorem PutR.lay (h : PutR w0 row base e size n xs p news false false false vb va wx) : PutR w0 row base e size n xs p news true false false (.slice (some ⟨wx.heap.size, 0, none⟩) 1 1) va (wx.alloc (.cells news.toArray e)) := by
  have hz := h.z rfl rfl rfl
  have hb : Below w0.heap.size w0 (wx.alloc (.cells news.toArray e)) := (h.a rfl rfl).alloc (by omega) _
  exact ⟨fun _ => ⟨hb.os, hb.tape, hb.output, hb.size, fun k hk _ => hb.block k hk⟩, fun _ _ => hb, (fun h => by cases h), fun _ => by rw [hz], fun _ _ _ => Blk.new' hz _ _, (fun h => by cases h), (fun h => by cases h)⟩
theorem PutR.app (h : PutR w0 row base e size n xs p news true false false vb va wx) {w' : World} {g cap : Nat} (ho : w'.ownsRow base e size (.slice (some ⟨g, 0, none⟩) (n + 1) cap) (n + 1) (xs ++ news)) (hg : wx.grownBy w' row.ownBlock) (hat : row.ownBlock = some g ∨ g = wx.heap.size) :
    PutR w0 row base e size n xs p news true true false vb (.slice (some ⟨g, 0, none⟩) (n + 1) cap) w' := by
  have h1 := h.g rfl
  have hG : w0.grownBy w' row.ownBlock := ⟨hg.os.trans h1.os, hg.tape.trans h1.tape, hg.output.trans h1.output, Nat.le_trans h1.size hg.size, fun k hk hne => (hg.block k (Nat.lt_of_lt_of_le hk h1.size) hne).trans (h1.block k hk hne)⟩
  exact ⟨fun _ => hG, (fun h => by cases h), (fun h => by cases h), h.b, (fun _ h => by cases h), fun _ _ => ⟨g, cap, rfl, ho, hat.imp id (fun e => by rw [e]; exact h1.size), hG⟩, (fun h => by cases h)⟩
theorem PutR.put (h : PutR w0 row base e size n xs p news true true false vb va wx) : PutR w0 row base e size n xs p news true true true vb va (wx.setCell p va) :=
  ⟨(fun h => by cases h), (fun h => by cases h), (fun h => by cases h), h.b, (fun _ h => by cases h), (fun _ h => by cases h), fun _ => ⟨wx, rfl, h.c rfl rfl⟩⟩
end
/-- Row k has grown. -/
theorem Fam.append' {w w' : World} {base N e size k n' : Nat} {v : Nat → Value} {m : Nat → Nat} {xs : Nat → List Value} {v' : Value} {ys : List Value} (h : Fam w base N e size v m xs) (hk : k < N)
    (ho : w'.ownsRow base e size v' n' ys) (hg : w.grownBy w' (v k).ownBlock) (hat : v'.ownBlock = (v k).ownBlock ∨ ∃ g, v'.ownBlock = some g ∧ w.heap.size ≤ g) : Fam w' base N e size (upd v k v') (upd m k n') (upd xs k ys) := by
  have hlt : ∀ i, i < N → ∀ g, (v i).ownBlock = some g → g < w.heap.size := fun i hi g hg => ((h.own i hi).lt g hg).2
  refine ⟨fun i hi => ?_, fun i j hi hj hij g h1 => ?_⟩
  · by_cases e : i = k
    · subst e; rw [upd_same, upd_same, upd_same]; exact ho
    · rw [upd_other _ _ e, upd_other _ _ e, upd_other _ _ e]
      refine (h.own i hi).kept hg ?_
      cases hv : (v i).ownBlock with
      | none => exact Or.inl rfl
      | some g => exact Or.inr (fun h2 => h.apart i k hi hk e g hv h2.symm)
  · by_cases ei : i = k
    · subst ei
      rw [upd_same] at h1
      rw [upd_other _ _ (Ne.symm hij)]
      rcases hat with h2 | ⟨q, h2, h4⟩
      · exact h.apart i j hi hj hij g (by rw [← h2, h1])
      · rw [h2] at h1
        intro h3
        have := hlt j hj g h3
        simp at h1; omega
    · rw [upd_other _ _ ei] at h1
      by_cases ej : j = k
      · subst ej
        rw [upd_same]
        rcases hat with h2 | ⟨q, h2, h4⟩
        · rw [h2]; exact h.apart i j hi hj hij g h1
        · rw [h2]
          have := hlt i hi g h1
          intro h3; simp at h3; omega
      · rw [upd_other _ _ ej]
        exact h.apart i j hi hj hij g h1
end
section
open Go.RowKit Go.Lib

/-- Maps from numbers to places. -/
def ptEnts : Nat → List (Int × Nat) → List MapEntry
  | _, [] => []
  | s, p :: r => { key := .int .i64 p.1, val := .pointer (some ⟨p.2, 0, none⟩), born := s } :: ptEnts (s + 1) r
def PtMap (w : World) (b : Nat) (l : List (Int × Nat)) : Prop := w.heap[b]? = some (.map (ptEnts 0 l).toArray l.length)
theorem ptEnts_append : ∀ (l : List (Int × Nat)) (s : Nat) (p : Int × Nat), ptEnts s (l ++ [p]) = ptEnts s l ++ [{ key := .int .i64 p.1, val := .pointer (some ⟨p.2, 0, none⟩), born := s + l.length }]
  | [], s, p => rfl
  | q :: r, s, p => by
    rw [List.cons_append, ptEnts, ptEnts, ptEnts_append r, List.cons_append, List.length_cons]
    rw [show s + 1 + r.length = s + (r.length + 1) by omega]
def ptLook (k : Int) : List (Int × Nat) → Nat → Option (Nat × Value)
  | [], _ => none
  | p :: r, i => if k = p.1 then some (i, .pointer (some ⟨p.2, 0, none⟩)) else ptLook k r (i + 1)
theorem ptLook_none {k : Int} : ∀ {l : List (Int × Nat)} {i : Nat}, (∀ p ∈ l, k ≠ p.1) → ptLook k l i = none
  | [], _, _ => rfl
  | p :: r, i, h => by
    rw [ptLook, if_neg (h p (by simp)), ptLook_none (fun q hq => h q (by simp [hq]))]
theorem ptLook_some {k : Int} {v : Nat} : ∀ {l : List (Int × Nat)} {i : Nat}, (l.map Prod.fst).Nodup → (k, v) ∈ l → ∃ j, ptLook k l i = some (j, .pointer (some ⟨v, 0, none⟩))
  | p :: r, i, hn, h => by
    rw [List.map_cons, List.nodup_cons] at hn
    rw [ptLook]
    rcases List.mem_cons.1 h with rfl | h
    · exact ⟨i, by rw [if_pos rfl]⟩
    · by_cases e : k = p.1
      · exfalso
        exact hn.1 (List.mem_map.2 ⟨(k, v), h, e⟩)
      · rw [if_neg e]; exact ptLook_some hn.2 h
theorem findNow_pt (k : Int) : ∀ (l : List (Int × Nat)) (s i : Nat), Instr.findNow (.int .i64) (.int .i64 k) (ptEnts s l) i = some (ptLook k l i)
  | [], s, i => rfl
  | p :: r, s, i => by
    have ih := findNow_pt k r (s + 1) (i + 1)
    rw [ptEnts, Instr.findNow, ptLook]
    by_cases e : k = p.1
    · simp [Instr.sameNow, e]
    · have h : (k == p.1) = false := by simpa using e
      simp only [Instr.sameNow, if_true, h, if_neg e, ih]
theorem findKey_pt (k : Int) (l : List (Int × Nat)) (w : World) : (Instr.findKey 3 (.int .i64 k) (ptEnts 0 l)).run Try.prog w = .ok (ptLook k l 0) w :=
  MapKept.run_findKey Try.underlying3 (findNow_pt k l 0 0)
theorem checkKey_pt (k : Int) (em : Bool) (w : World) : (Instr.checkKey em 10000 3 (.int .i64 k)).run Try.prog w = .ok () w :=
  MapKept.run_checkKey Try.underlying3 (show MapKept.IsKey (.int .i64) (.int .i64 k) from rfl) em 9999
theorem Try.zeroPt (w : World) : (zeroValue 134).run Try.prog w = .ok (.pointer none) w := by kernel_rfl
section
variable {w w' : World} {b : Nat} {l : List (Int × Nat)} {k : Int} {v : Nat}
theorem PtMap.lt (h : PtMap w b l) : b < w.heap.size := (Array.getElem?_eq_some_iff.1 h).1
theorem PtMap.after (h : PtMap w b l) (hb : Below w.heap.size w w') : PtMap w' b l := (hb.block b h.lt).trans h
theorem PtMap.grown (h : PtMap w b l) {row : Option Nat} (hg : w.grownBy w' row) (hr : row ≠ some b) : PtMap w' b l := (hg.block b h.lt (Ne.symm hr)).trans h
theorem PtMap.ne {t : Nat} {C : List Value} {b' : Nat} (h : PtMap w b l) (h' : Blk w b' t C) : b ≠ b' := by
  rintro rfl
  unfold PtMap at h; unfold Blk at h'
  rw [h] at h'
  cases h'
theorem PtMap.other (h : PtMap w b l) {p : Addr} (hp : b ≠ p.block) (v : Value) : PtMap (w.setCell p v) b l := (Below.heap_setCell _ _ _ _ hp).trans h
theorem PtMap.ne_own {e base size n : Nat} {xs : List Value} {v : Value} (h : PtMap w b l) (ho : w.ownsRow base e size v n xs) : v.ownBlock ≠ some b := by
  intro hb
  rcases ho.2 with ⟨rfl, _⟩ | ⟨g, cap, cur, rfl, _, hg, _⟩
  · simp [Value.ownBlock] at hb
  · simp only [Value.ownBlock, Option.some.injEq] at hb
    subst hb
    unfold PtMap at h
    rw [h] at hg
    cases hg
theorem PtMap.new (w : World) : PtMap (w.alloc (.map #[] 0)) w.heap.size [] := heap_alloc_new w _
/-- A new key. -/
theorem PtMap.update (h : PtMap w b l) (hk : ∀ p ∈ l, k ≠ p.1) : ∃ w', (Instr.mapUpdate 132 (.map (some b)) (.int .i64 k) (.pointer (some ⟨v, 0, none⟩))).run Try.prog w = .ok () w' ∧ PtMap w' b (l ++ [(k, v)]) ∧ w.grownBy w' (some b) := by
  have hlt := h.lt
  have hg := MapKept.run_getObj_map (P := Try.prog) h
  have hf := findKey_pt k l w
  rw [ptLook_none hk] at hf
  refine ⟨{ w with heap := w.heap.setIfInBounds b (.map (ptEnts 0 (l ++ [(k, v)])).toArray (l ++ [(k, v)]).length) }, ?_, ?_, ⟨rfl, rfl, rfl, by simp, fun j hj hne => ?_⟩⟩
  · have e : (ptEnts 0 l).toArray.push { key := .int .i64 k, val := .pointer (some ⟨v, 0, none⟩), born := l.length } = (ptEnts 0 (l ++ [(k, v)])).toArray := by
      rw [ptEnts_append]; simp
    simp only [Instr.mapUpdate, Sem.run_bind, run_underlying Try.underlying132, hg, checkKey_pt, hf, Result.andThen_ok, MapKept.run_setObj_map _ h, e, List.length_append, List.length_singleton]
  · unfold PtMap
    simp [hlt]
  · have : b ≠ j := fun e => hne (by rw [e])
    simp [this]
theorem PtMap.lookup (h : PtMap w b l) : (Instr.lookup 132 (.map (some b)) (.int .i64 k) false).run Try.prog w = .ok (match ptLook k l 0 with | some (_, u) => u | none => .pointer none) w := by
  have hg := MapKept.run_getObj_map (P := Try.prog) h
  have hf := findKey_pt k l w
  have hz := Try.zeroPt w
  have hck := checkKey_pt k (ptEnts 0 l).isEmpty w
  cases hs : ptLook k l 0 with
  | none =>
    rw [hs] at hf
    simp [Instr.lookup, run_underlying Try.underlying132, hg, hck, hf, hz, Result.andThen]
  | some q =>
    rw [hs] at hf
    simp [Instr.lookup, run_underlying Try.underlying132, hg, hck, hf, Result.andThen]
theorem PtMap.lookup_none (h : PtMap w b l) (hk : ∀ p ∈ l, k ≠ p.1) : (Instr.lookup 132 (.map (some b)) (.int .i64 k) false).run Try.prog w = .ok (.pointer none) w := by
  rw [h.lookup, ptLook_none hk]
theorem PtMap.lookup_some (h : PtMap w b l) (hn : (l.map Prod.fst).Nodup) (hk : (k, v) ∈ l) : (Instr.lookup 132 (.map (some b)) (.int .i64 k) false).run Try.prog w = .ok (.pointer (some ⟨v, 0, none⟩)) w := by
  obtain ⟨j, hj⟩ := ptLook_some (i := 0) hn hk
  rw [h.lookup, hj]
end

/-- The state of order.Of: whom the map knows; what each read; rows: of x what it wrote, of 12 + i who wrote item i; who committed. -/
structure OfSt where
  has : List Int
  reads : Nat → List EgM
  rows : Nat → List Int
  done : List Int
namespace OfM
def start : OfSt := ⟨[], fun _ => [], fun _ => [], []⟩
def begin (st : OfSt) (t : Int) : OfSt := if t ∈ st.has then st else { st with has := st.has ++ [t] }
def put (t : Int) (rows : Nat → List Int) (its : List Int) : Nat → List Int := its.foldl (fun r it => upd r (12 + it.toNat) (r (12 + it.toNat) ++ [t])) rows
def step (st : OfSt) (o : OpM) (d : DidM) : OfSt :=
  let s := begin st o.tx
  let x := o.tx.toNat
  if o.kind = 1 ∧ d.from_ ≠ o.tx then { s with reads := upd s.reads x (s.reads x ++ [⟨o.item, d.from_⟩]) }
  else if o.kind = 2 ∧ o.item ∉ s.rows x then { s with rows := upd s.rows x (s.rows x ++ [o.item]) }
  else if o.kind = 3 ∧ d.ok = true then { s with rows := put o.tx s.rows (s.rows x), done := s.done ++ [o.tx] }
  else s
def go (st : OfSt) : List (OpM × DidM) → OfSt
  | [] => st
  | p :: r => go (step st p.1 p.2) r
def run (l : List OpM) (ds : List DidM) (k : Nat) : OfSt := go start ((l.zip ds).take k)
theorem go_append (st : OfSt) (a b : List (OpM × DidM)) : go st (a ++ b) = go (go st a) b := by
  induction a generalizing st with
  | nil => rfl
  | cons p r ih => exact ih _
theorem run_succ {l : List OpM} {ds : List DidM} {k : Nat} (h : k < l.length) (h' : k < ds.length) : run l ds (k + 1) = step (run l ds k) l[k] ds[k] := by
  unfold run
  rw [List.take_succ_eq_append_getElem (by rw [List.length_zip]; omega), go_append]
  simp [go]
theorem put_succ (t : Int) (rows : Nat → List Int) (its : List Int) (k : Nat) (h : k < its.length) : put t rows (its.take (k + 1)) = upd (put t rows (its.take k)) (12 + (its[k]).toNat) (put t rows (its.take k) (12 + (its[k]).toNat) ++ [t]) := by
  unfold put
  rw [List.take_succ_eq_append_getElem h, List.foldl_append]; rfl
theorem put_low (t : Int) : ∀ (its : List Int) (rows : Nat → List Int) (i : Nat), i < 12 → put t rows its i = rows i
  | [], _, _, _ => rfl
  | it :: r, rows, i, hi => by
    have h := put_low t r (upd rows (12 + it.toNat) (rows (12 + it.toNat) ++ [t])) i hi
    simp only [put, List.foldl_cons] at h ⊢
    rw [h, upd_other _ _ (by omega)]
theorem put_len (t : Int) : ∀ (its : List Int) (rows : Nat → List Int) (i : Nat), (put t rows its i).length ≤ (rows i).length + its.length
  | [], _, _ => by simp [put]
  | it :: r, rows, i => by
    have h := put_len t r (upd rows (12 + it.toNat) (rows (12 + it.toNat) ++ [t])) i
    simp only [put, List.foldl_cons, List.length_cons] at h ⊢
    by_cases e : i = 12 + it.toNat
    · subst e
      rw [upd_same, List.length_append, List.length_singleton] at h
      omega
    · rw [upd_other _ _ e] at h
      omega
end OfM
end
section
open Go.RowKit Go.Lib

/-- Who committed, with the place of what each read. -/
def OfM.talesV (vr : Nat → Value) (l : List Int) : List Value := l.flatMap fun t => [.int .i64 t, vr t.toNat]
theorem OfM.talesV_len (vr : Nat → Value) (l : List Int) : (OfM.talesV vr l).length = l.length * 2 := by
  induction l with
  | nil => rfl
  | cons t l ih => simp only [OfM.talesV, List.flatMap_cons, List.length_append, List.length_cons, List.length_nil] at *; omega
theorem OfM.talesV_append (vr : Nat → Value) (a b : List Int) : OfM.talesV vr (a ++ b) = OfM.talesV vr a ++ OfM.talesV vr b := by simp [OfM.talesV]
theorem OfM.talesV_congr {vr vr' : Nat → Value} {l : List Int} (h : ∀ t ∈ l, vr' t.toNat = vr t.toNat) : OfM.talesV vr' l = OfM.talesV vr l := by
  induction l with
  | nil => rfl
  | cons t l ih =>
    simp only [OfM.talesV, List.flatMap_cons] at *
    rw [ih (fun u hu => h u (List.mem_cons_of_mem _ hu)), h t List.mem_cons_self]

/-- M the map, N the writes, O what is made, V its versions, R the result's cell, bt x the tale of x. -/
structure OfM.OW (w : World) (M N O V R : Nat) (bt : Nat → Nat) (st : OfSt) (v vr : Nat → Value) (vt : Value) (wr : World) : Prop where
  below : Below w.heap.size w wr
  lo : w.heap.size ≤ M ∧ w.heap.size ≤ N ∧ w.heap.size ≤ O ∧ w.heap.size ≤ V ∧ w.heap.size ≤ R ∧ R ≠ O
  mp : PtMap wr M (st.has.map fun t => (t, bt t.toNat))
  keys : st.has.Nodup ∧ ∀ t ∈ st.has, 0 ≤ t ∧ t < 12
  nb : Blk wr N 133 (Tab 12 v)
  ob : Blk wr O 25 [vt, .slice (some ⟨V, 0, none⟩) 20 20]
  vb : Blk wr V 31 (Tab 20 fun i => v (12 + i))
  rb : Blk wr R 25 [.slice none 0 0, .slice none 0 0]
  fam : Fam wr w.heap.size 32 3 1 v (fun r => (st.rows r).length) (fun r => intVals (st.rows r))
  tb : ∀ x : Nat, (x : Int) ∈ st.has → w.heap.size ≤ bt x ∧ Blk wr (bt x) 30 [.int .i64 x, vr x]
  inj : ∀ x y : Nat, (x : Int) ∈ st.has → (y : Int) ∈ st.has → bt x = bt y → x = y
  fr : Fam wr w.heap.size 12 27 2 vr (fun x => (st.reads x).length) (fun x => egVals (st.reads x))
  tl : wr.ownsRow w.heap.size 30 2 vt st.done.length (OfM.talesV vr st.done)
  apart : ∀ x : Nat, (x : Int) ∈ st.has → vt.ownBlock ≠ some (bt x)
  dn : ∀ t ∈ st.done, t ∈ st.has
section
variable {w wr w' : World} {M N O V R : Nat} {bt : Nat → Nat} {st : OfSt} {v vr : Nat → Value} {vt : Value}
theorem OfM.OW.after (h : OfM.OW w M N O V R bt st v vr vt wr) (hb : Below wr.heap.size wr w') : OfM.OW w M N O V R bt st v vr vt w' :=
  ⟨below_tr h.below hb, h.lo, h.mp.after hb, h.keys, h.nb.after hb, h.ob.after hb, h.vb.after hb, h.rb.after hb, h.fam.after hb, fun x hx => ⟨(h.tb x hx).1, (h.tb x hx).2.after hb⟩, h.inj, h.fr.after hb, ownsRow_below h.tl hb, h.apart, h.dn⟩
theorem OfM.OW.alloc (h : OfM.OW w M N O V R bt st v vr vt wr) (o : Obj) : OfM.OW w M N O V R bt st v vr vt (wr.alloc o) := h.after ((Below.refl _ _).alloc (Nat.le_refl _) o)
theorem OfM.OW.drew (h : OfM.OW w M N O V R bt st v vr vt wr) (n : Nat) : OfM.OW w M N O V R bt st v vr vt (wr.drewN n) := h.after ⟨rfl, rfl, rfl, Nat.le_refl _, fun _ _ => rfl⟩
theorem Fam.congr' {w : World} {base N e size : Nat} {v v' : Nat → Value} {m m' : Nat → Nat} {xs xs' : Nat → List Value} (h : Fam w base N e size v m xs) (h0 : ∀ i, i < N → v' i = v i) (h1 : ∀ i, i < N → m' i = m i) (h2 : ∀ i, i < N → xs' i = xs i) : Fam w base N e size v' m' xs' :=
  ⟨fun i hi => by rw [h0 i hi, h1 i hi, h2 i hi]; exact h.own i hi, fun i j hi hj hij g hg => by rw [h0 i hi] at hg; rw [h0 j hj]; exact h.apart i j hi hj hij g hg⟩
theorem own_shape {w : World} {base e size n : Nat} {v : Value} {xs : List Value} (h : w.ownsRow base e size v n xs) : ∃ ao cap, v = .slice ao n cap := by
  rcases h.2 with ⟨h1, h2⟩ | ⟨g, cap, cur, h1, _⟩
  · exact ⟨none, 0, by rw [h1, h2]⟩
  · exact ⟨_, cap, h1⟩
/-- Whom the map does not know yet. -/
theorem OfM.OW.new (h : OfM.OW w M N O V R bt st v vr vt wr) {x : Nat} (hx : x < 12) (hn : (x : Int) ∉ st.has) (h0 : vr x = .slice none 0 0) {w1 : World}
    (hm : PtMap w1 M ((st.has.map fun t => (t, bt t.toNat)) ++ [((x : Int), wr.heap.size)])) (hg : (wr.alloc (.cells #[.int .i64 x, .slice none 0 0] 30)).grownBy w1 (some M)) :
    OfM.OW w M N O V R (upd bt x wr.heap.size) { st with has := st.has ++ [(x : Int)] } v vr vt w1 := by
  have hA := h.alloc (.cells #[.int .i64 x, .slice none 0 0] 30)
  have hne : ∀ t ∈ st.has, t.toNat ≠ x := fun t ht e => hn (by have := (h.keys.2 t ht).1; rw [← e, Int.toNat_of_nonneg this]; exact ht)
  have hbk : ∀ {b t C}, Blk (wr.alloc (.cells #[.int .i64 x, .slice none 0 0] 30)) b t C → Blk w1 b t C := fun hB => hB.grown hg (fun e => hA.mp.ne hB (by injection e))
  have hok : ∀ {base e size n xs v}, (wr.alloc (.cells #[.int .i64 x, .slice none 0 0] 30)).ownsRow base e size v n xs → w1.ownsRow base e size v n xs := fun ho => ho.kept hg (Or.inr (fun e => hA.mp.ne_own ho e))
  have hbt : ∀ y : Nat, (y : Int) ∈ st.has → y ≠ x := fun y hy e => hn (e ▸ hy)
  have hlt : ∀ y : Nat, (y : Int) ∈ st.has → bt y < wr.heap.size := fun y hy => (h.tb y hy).2.lt
  refine ⟨hA.below.grown hg hA.below.size (fun b hb => by injection hb with hb; have := h.lo.1; omega), h.lo, ?_, ⟨?_, ?_⟩, hbk hA.nb, hbk hA.ob, hbk hA.vb, hbk hA.rb, ⟨fun i hi => hok (hA.fam.own i hi), hA.fam.apart⟩, ?_, ?_, ⟨fun i hi => hok (hA.fr.own i hi), hA.fr.apart⟩, hok hA.tl, ?_, fun t ht => List.mem_append_left _ (h.dn t ht)⟩
  · rw [List.map_append, List.map_cons, List.map_nil, Int.toNat_natCast, upd_same]
    have e : (st.has.map fun t => (t, upd bt x wr.heap.size t.toNat)) = st.has.map fun t => (t, bt t.toNat) := List.map_congr_left (fun t ht => by rw [upd_other _ _ (hne t ht)])
    rw [e]; exact hm
  · rw [List.nodup_append]
    exact ⟨h.keys.1, by simp, fun a ha b hb => by simp at hb; subst hb; intro e; exact hn (e ▸ ha)⟩
  · intro t ht
    rcases List.mem_append.1 ht with ht | ht
    · exact h.keys.2 t ht
    · simp at ht; omega
  · intro y hy
    rcases List.mem_append.1 hy with hy | hy
    · rw [upd_other _ _ (hbt y hy)]
      exact ⟨(h.tb y hy).1, hbk (hA.tb y hy).2⟩
    · obtain rfl : y = x := by simp at hy; omega
      rw [upd_same, h0]
      exact ⟨h.below.size, hbk (Blk.new wr [.int .i64 y, .slice none 0 0] _)⟩
  · intro y z hy hz e
    have cy : (y : Int) ∈ st.has ∨ y = x := by
      rcases List.mem_append.1 hy with h1 | h1
      · exact Or.inl h1
      · right; simp at h1; omega
    have cz : (z : Int) ∈ st.has ∨ z = x := by
      rcases List.mem_append.1 hz with h1 | h1
      · exact Or.inl h1
      · right; simp at h1; omega
    clear hy hz
    rcases cy with hy | hy
    · rcases cz with hz | hz
      · rw [upd_other _ _ (hbt y hy), upd_other _ _ (hbt z hz)] at e
        exact h.inj y z hy hz e
      · rw [upd_other _ _ (hbt y hy), hz, upd_same] at e
        have := hlt y hy; omega
    · rcases cz with hz | hz
      · rw [hy, upd_same, upd_other _ _ (hbt z hz)] at e
        have := hlt z hz; omega
      · rw [hy, hz]
  · intro y hy
    rcases List.mem_append.1 hy with hy | hy
    · rw [upd_other _ _ (hbt y hy)]; exact h.apart y hy
    · obtain rfl : y = x := by simp at hy; omega
      rw [upd_same]
      intro e
      have := (h.tl.lt _ e).2
      omega
/-- A row of the writes, or of the versions, has grown. -/
theorem OfM.OW.putRow (h : OfM.OW w M N O V R bt st v vr vt wr) {w1 : World} {r B i : Nat} {k : Int} {v' : Value} (hr : r < 32) (hB : (r < 12 ∧ B = N ∧ i = r) ∨ (12 ≤ r ∧ B = V ∧ i = r - 12))
    (hgot : PutR.Got wr (v r) w.heap.size 3 1 (st.rows r).length (intVals (st.rows r)) [.int .i64 k] v' w1) :
    OfM.OW w M N O V R bt { st with rows := upd st.rows r (st.rows r ++ [k]) } (upd v r v') vr vt (w1.setCell ⟨B, i, none⟩ v') := by
  obtain ⟨g, cap, rfl, ho, hat, hg⟩ := hgot
  have hno := h.fam.own r hr
  have hne : ∀ {b t C}, Blk wr b t C → t ≠ 3 → Blk w1 b t C := fun hB ht => hB.grown hg (hB.ne_own hno ht)
  have bN := hne h.nb (by decide)
  have bV := hne h.vb (by decide)
  have hkeep : ∀ {b t C}, Blk wr b t C → t ≠ 3 → t ≠ 133 → t ≠ 31 → Blk (w1.setCell ⟨B, i, none⟩ (.slice (some ⟨g, 0, none⟩) ((st.rows r).length + 1) cap)) b t C := fun hb h1 h2 h3 => by
    refine (hne hb h1).other ?_ _
    rcases hB with ⟨_, rfl, _⟩ | ⟨_, rfl, _⟩
    · exact hb.ne h.nb h2
    · exact hb.ne h.vb h3
  have hlo : w.heap.size ≤ B := by rcases hB with ⟨_, rfl, _⟩ | ⟨_, rfl, _⟩ <;> first | exact h.lo.2.1 | exact h.lo.2.2.2.1
  have hown : ∀ {base e size n xs u}, wr.ownsRow base e size u n xs → e ≠ 3 → e ≠ 133 → e ≠ 31 → (w1.setCell ⟨B, i, none⟩ (.slice (some ⟨g, 0, none⟩) ((st.rows r).length + 1) cap)).ownsRow base e size u n xs := fun {base e size n xs u} hu h1 h2 h3 => by
    have h4 : w1.ownsRow base e size u n xs := hu.kept hg (by
      cases hb : u.ownBlock with
      | none => exact Or.inl rfl
      | some b =>
        refine Or.inr (fun e2 => ?_)
        rcases hu.2 with ⟨rfl, _⟩ | ⟨q, _, cur, rfl, _, hq, _⟩
        · simp [Value.ownBlock] at hb
        · rcases hno.2 with ⟨h5, _⟩ | ⟨q2, _, cur2, h5, _, hq2, _⟩
          · rw [h5] at e2; simp [Value.ownBlock] at e2
          · rw [h5] at e2
            simp only [Value.ownBlock, Option.some.injEq] at hb e2
            subst hb; subst e2
            rw [hq] at hq2
            injection hq2 with hq2
            injection hq2 with _ h7 _
            exact h1 h7)
    refine ownsRow_setCell_other h4 ?_ _
    rcases hB with ⟨_, rfl, _⟩ | ⟨_, rfl, _⟩
    · exact bN.ne_own h4 (Ne.symm h2)
    · exact bV.ne_own h4 (Ne.symm h3)
  have hmp : PtMap (w1.setCell ⟨B, i, none⟩ (.slice (some ⟨g, 0, none⟩) ((st.rows r).length + 1) cap)) M (st.has.map fun t => (t, bt t.toNat)) := by
    have h1 := h.mp.grown hg (fun e => h.mp.ne_own hno e)
    refine h1.other ?_ _
    rcases hB with ⟨_, rfl, _⟩ | ⟨_, rfl, _⟩
    · exact h1.ne bN
    · exact h1.ne bV
  have hfam := h.fam.append' hr ho hg (by
    rcases hat with h1 | h1
    · exact Or.inl h1.symm
    · exact Or.inr ⟨g, rfl, h1⟩)
  refine ⟨(h.below.grown hg h.below.size (fun b hb => (hno.lt b hb).1)).setCell hlo _, h.lo, hmp, h.keys, ?_, hkeep h.ob (by decide) (by decide) (by decide), ?_, hkeep h.rb (by decide) (by decide) (by decide), ?_, fun x hx => ⟨(h.tb x hx).1, hkeep (h.tb x hx).2 (by decide) (by decide) (by decide)⟩, h.inj, ⟨fun j hj => hown (h.fr.own j hj) (by decide) (by decide) (by decide), h.fr.apart⟩, hown h.tl (by decide) (by decide) (by decide), h.apart, h.dn⟩
  · rcases hB with ⟨h1, rfl, rfl⟩ | ⟨h1, rfl, rfl⟩
    · exact bN.tabSet i _
    · have h2 := bN.other (p := ⟨B, r - 12, none⟩) (bN.ne bV (by decide)) (.slice (some ⟨g, 0, none⟩) ((st.rows r).length + 1) cap)
      rwa [Tab_congr (g := upd v r (.slice (some ⟨g, 0, none⟩) ((st.rows r).length + 1) cap)) (fun j hj => by rw [upd_other _ _ (by omega)])] at h2
  · rcases hB with ⟨h1, rfl, rfl⟩ | ⟨h1, rfl, rfl⟩
    · have h2 := bV.other (p := ⟨B, i, none⟩) (bV.ne bN (by decide)) (.slice (some ⟨g, 0, none⟩) ((st.rows i).length + 1) cap)
      rwa [Tab_congr (g := fun j => upd v i (.slice (some ⟨g, 0, none⟩) ((st.rows i).length + 1) cap) (12 + j)) (fun j hj => by rw [upd_other _ _ (by omega)])] at h2
    · have h2 := bV.tabSet (r - 12) (.slice (some ⟨g, 0, none⟩) ((st.rows r).length + 1) cap)
      rwa [Tab_congr (g := fun j => upd v r (.slice (some ⟨g, 0, none⟩) ((st.rows r).length + 1) cap) (12 + j)) (fun j hj => by
        unfold upd
        by_cases e : j = r - 12
        · rw [if_pos e, if_pos (by omega)]
        · rw [if_neg e, if_neg (by omega)])] at h2
  · have h2 : Fam (w1.setCell ⟨B, i, none⟩ (.slice (some ⟨g, 0, none⟩) ((st.rows r).length + 1) cap)) w.heap.size 32 3 1 (upd v r (.slice (some ⟨g, 0, none⟩) ((st.rows r).length + 1) cap)) (upd (fun r => (st.rows r).length) r ((st.rows r).length + 1)) (upd (fun r => intVals (st.rows r)) r (intVals (st.rows r) ++ [.int .i64 k])) := by
      rcases hB with ⟨_, rfl, _⟩ | ⟨_, rfl, _⟩
      · exact hfam.setCell bN (by decide) _ _
      · exact hfam.setCell bV (by decide) _ _
    refine h2.congr' (fun _ _ => rfl) (fun j _ => ?_) (fun j _ => ?_)
    · simp only [upd]
      by_cases e : j = r
      · subst e; simp
      · simp [e]
    · simp only [upd]
      by_cases e : j = r
      · subst e; simp [intVals]
      · simp [e]
theorem own_far {w w1 : World} {base base' e e' size size' n n' : Nat} {row u : Value} {xs xs' : List Value} (hno : w.ownsRow base e size row n xs) (hg : w.grownBy w1 row.ownBlock) (hu : w.ownsRow base' e' size' u n' xs') (h1 : e' ≠ e) : w1.ownsRow base' e' size' u n' xs' :=
  hu.kept hg (by
    cases hb : u.ownBlock with
    | none => exact Or.inl rfl
    | some b =>
      refine Or.inr (fun e2 => ?_)
      rcases hu.2 with ⟨rfl, _⟩ | ⟨q, _, cur, rfl, _, hq, _⟩
      · simp [Value.ownBlock] at hb
      · rcases hno.2 with ⟨h5, _⟩ | ⟨q2, _, cur2, h5, _, hq2, _⟩
        · rw [h5] at e2; simp [Value.ownBlock] at e2
        · rw [h5] at e2
          simp only [Value.ownBlock, Option.some.injEq] at hb e2
          subst hb; subst e2
          rw [hq] at hq2
          injection hq2 with hq2
          injection hq2 with _ h7 _
          exact h1 h7)
/-- A read has been told of. -/
theorem OfM.OW.putRead (h : OfM.OW w M N O V R bt st v vr vt wr) {w1 : World} {x : Nat} {e : EgM} {v' : Value} (hx : x < 12) (hin : (x : Int) ∈ st.has) (hnd : (x : Int) ∉ st.done)
    (hgot : PutR.Got wr (vr x) w.heap.size 27 2 (st.reads x).length (egVals (st.reads x)) [.int .i64 e.frm, .int .i64 e.to_] v' w1) :
    OfM.OW w M N O V R bt { st with reads := upd st.reads x (st.reads x ++ [e]) } v (upd vr x v') vt (w1.setCell ⟨bt x, 1, none⟩ v') := by
  obtain ⟨g, cap, rfl, ho, hat, hg⟩ := hgot
  have hno := h.fr.own x hx
  have hne : ∀ {b t C}, Blk wr b t C → t ≠ 27 → Blk w1 b t C := fun hB ht => hB.grown hg (hB.ne_own hno ht)
  have hT := (h.tb x hin).2
  have bT := hne hT (by decide)
  have hkeep : ∀ {b t C}, Blk wr b t C → t ≠ 27 → t ≠ 30 → Blk (w1.setCell ⟨bt x, 1, none⟩ (.slice (some ⟨g, 0, none⟩) ((st.reads x).length + 1) cap)) b t C := fun hb h1 h2 =>
    (hne hb h1).other (hb.ne hT h2) _
  have hdx : ∀ t ∈ st.done, t.toNat ≠ x := fun t ht e => hnd (by have := (h.keys.2 t (h.dn t ht)).1; rw [← e, Int.toNat_of_nonneg this]; exact ht)
  have hmp : PtMap (w1.setCell ⟨bt x, 1, none⟩ (.slice (some ⟨g, 0, none⟩) ((st.reads x).length + 1) cap)) M (st.has.map fun t => (t, bt t.toNat)) := by
    have h1 := h.mp.grown hg (fun e => h.mp.ne_own hno e)
    exact h1.other (h1.ne bT) _
  have hfr := h.fr.append' hx ho hg (by
    rcases hat with h1 | h1
    · exact Or.inl h1.symm
    · exact Or.inr ⟨g, rfl, h1⟩)
  refine ⟨(h.below.grown hg h.below.size (fun b hb => (hno.lt b hb).1)).setCell (h.tb x hin).1 _, h.lo, hmp, h.keys, hkeep h.nb (by decide) (by decide), hkeep h.ob (by decide) (by decide), hkeep h.vb (by decide) (by decide), hkeep h.rb (by decide) (by decide),
    ⟨fun j hj => ownsRow_setCell_other (own_far hno hg (h.fam.own j hj) (by decide)) (bT.ne_own (own_far hno hg (h.fam.own j hj) (by decide)) (by decide)) _, h.fam.apart⟩, ?_, h.inj, ?_, ?_, h.apart, h.dn⟩
  · intro y hy
    by_cases e2 : y = x
    · subst e2
      rw [upd_same]
      exact ⟨(h.tb y hy).1, bT.set 1 _⟩
    · rw [upd_other _ _ e2]
      exact ⟨(h.tb y hy).1, (hne (h.tb y hy).2 (by decide)).other (fun e3 => e2 (h.inj y x hy hin e3)) _⟩
  · have h2 := hfr.setCell bT (by decide) 1 (.slice (some ⟨g, 0, none⟩) ((st.reads x).length + 1) cap)
    refine h2.congr' (fun _ _ => rfl) (fun j _ => ?_) (fun j _ => ?_)
    · simp only [upd]
      by_cases e : j = x
      · subst e; simp
      · simp [e]
    · simp only [upd]
      by_cases e : j = x
      · subst e; simp [egVals]
      · simp [e]
  · rw [OfM.talesV_congr (vr := vr) (fun t ht => upd_other _ _ (hdx t ht))]
    exact ownsRow_setCell_other (own_far hno hg h.tl (by decide)) (h.apart x hin) _
/-- A transaction has committed. -/
theorem OfM.OW.putTale (h : OfM.OW w M N O V R bt st v vr vt wr) {w1 : World} {x : Nat} {v' : Value} (hin : (x : Int) ∈ st.has)
    (hgot : PutR.Got wr vt w.heap.size 30 2 st.done.length (OfM.talesV vr st.done) [.int .i64 x, vr x] v' w1) :
    OfM.OW w M N O V R bt { st with done := st.done ++ [(x : Int)] } v vr v' (w1.setCell ⟨O, 0, none⟩ v') := by
  obtain ⟨g, cap, rfl, ho, hat, hg⟩ := hgot
  have hno := h.tl
  have hne : ∀ {b t C}, Blk wr b t C → t ≠ 30 → Blk w1 b t C := fun hB ht => hB.grown hg (hB.ne_own hno ht)
  have bO := hne h.ob (by decide)
  have hkeep : ∀ {b t C}, Blk wr b t C → t ≠ 30 → b ≠ O → Blk (w1.setCell ⟨O, 0, none⟩ (.slice (some ⟨g, 0, none⟩) (st.done.length + 1) cap)) b t C := fun hb h1 h2 => (hne hb h1).other h2 _
  have hmp : PtMap (w1.setCell ⟨O, 0, none⟩ (.slice (some ⟨g, 0, none⟩) (st.done.length + 1) cap)) M (st.has.map fun t => (t, bt t.toNat)) := by
    have h1 := h.mp.grown hg (fun e => h.mp.ne_own hno e)
    exact h1.other (h1.ne bO) _
  refine ⟨(h.below.grown hg h.below.size (fun b hb => (hno.lt b hb).1)).setCell h.lo.2.2.1 _, h.lo, hmp, h.keys, hkeep h.nb (by decide) (h.nb.ne h.ob (by decide)), bO.set 0 _, hkeep h.vb (by decide) (h.vb.ne h.ob (by decide)), hkeep h.rb (by decide) h.lo.2.2.2.2.2,
    ⟨fun j hj => ownsRow_setCell_other (own_far hno hg (h.fam.own j hj) (by decide)) (bO.ne_own (own_far hno hg (h.fam.own j hj) (by decide)) (by decide)) _, h.fam.apart⟩, ?_, h.inj,
    ⟨fun j hj => ownsRow_setCell_other (own_far hno hg (h.fr.own j hj) (by decide)) (bO.ne_own (own_far hno hg (h.fr.own j hj) (by decide)) (by decide)) _, h.fr.apart⟩, ?_, ?_, ?_⟩
  · intro y hy
    have h1 := (h.tb y hy).2
    have h2 : Blk w1 (bt y) 30 [.int .i64 y, vr y] := h1.grown hg (h.apart y hy)
    exact ⟨(h.tb y hy).1, h2.other (h2.ne bO (by decide)) _⟩
  · rw [OfM.talesV_append, List.length_append, List.length_singleton]
    have h2 : OfM.talesV vr [(x : Int)] = [.int .i64 x, vr x] := by simp [OfM.talesV]
    rw [h2]
    exact ownsRow_setCell_other ho (bO.ne_own ho (by decide)) _
  · intro y hy e
    rcases hat with h1 | h1
    · exact h.apart y hy (h1.trans e)
    · have := (h.tb y hy).2.lt
      simp [Value.ownBlock] at e
      omega
  · intro t ht
    rcases List.mem_append.1 ht with ht | ht
    · exact h.dn t ht
    · simp at ht; rw [ht]; exact hin
end
end
section
open Go.RowKit Go.Lib

theorem Try.infoIntsO : (Try.prog.info? 31).map (fun i => (i.zero, i.size, i.bytes)) = some (some (.slice none 0 0), 1, 24) := by kernel_rfl
theorem Try.infoIntO : (Try.prog.info? 3).map (fun i => (i.zero, i.size, i.bytes)) = some (some (.int .i64 0), 1, 8) := by kernel_rfl
theorem Try.infoGotO : (Try.prog.info? 27).map (fun i => (i.zero, i.size, i.bytes)) = some (some (.agg #[.int .i64 0, .int .i64 0]), 2, 16) := by kernel_rfl
theorem Try.infoTaleO : (Try.prog.info? 30).map (fun i => (i.zero, i.size, i.bytes)) = some (some (.agg #[.int .i64 0, .slice none 0 0]), 2, 32) := by kernel_rfl
theorem info_partsO {T : TypeId} {z : Option Value} {s b : Nat} (h : (Try.prog.info? T).map (fun i => (i.zero, i.size, i.bytes)) = some (z, s, b)) : ∃ i, Try.prog.info? T = some i ∧ i.zero = z ∧ i.size = s ∧ i.bytes = b := by
  cases hi : Try.prog.info? T with
  | none => rw [hi] at h; simp at h
  | some i => rw [hi] at h; simp at h; exact ⟨i, rfl, h.1, h.2.1, h.2.2⟩

/-- What was done of each operation, in memory. -/
def DidsAt (w : World) (ao : Option Addr) (l : List DidM) : Prop :=
  l = [] ∨ ∃ b off, ao = some ⟨b, off, none⟩ ∧ b < w.heap.size ∧ ∀ k (h : k < l.length), w.cell? ⟨b, off + k * 2, none⟩ = some (.bool l[k].ok) ∧ w.cell? ⟨b, off + k * 2 + 1, none⟩ = some (.int .i64 l[k].from_)
theorem DidsAt.below {B : Nat} {w w' : World} {ao : Option Addr} {l : List DidM} (h : DidsAt w ao l) (hb : Below B w w') (hB : w.heap.size ≤ B) : DidsAt w' ao l := by
  rcases h with h | ⟨b, off, h1, h2, h3⟩
  · exact Or.inl h
  · exact Or.inr ⟨b, off, h1, Nat.lt_of_lt_of_le h2 hb.size, fun k hk => ⟨(hb.cell (p := ⟨b, off + k * 2, none⟩) (Nat.lt_of_lt_of_le h2 hB)).trans (h3 k hk).1, (hb.cell (p := ⟨b, off + k * 2 + 1, none⟩) (Nat.lt_of_lt_of_le h2 hB)).trans (h3 k hk).2⟩⟩

namespace OfM
/-- The bounds behind k operations. -/
structure Bnd (st : OfSt) (k : Nat) : Prop where
  rd : ∀ x, (st.reads x).length ≤ k
  wr : ∀ x, x < 12 → (st.rows x).length ≤ k
  it : ∀ x, x < 12 → ∀ i ∈ st.rows x, 0 ≤ i ∧ i < 20
  v : ∀ r, 12 ≤ r → (st.rows r).length ≤ k * 200
  d : st.done.length ≤ k
theorem Bnd.step {st : OfSt} {k : Nat} (h : Bnd st k) (hk : k < 200) {o : OpM} {d : DidM} (ho : RunM.bad o = 0) : Bnd (step st o d) (k + 1) := by
  obtain ⟨h0, h1, h2, h3, _⟩ := RunM.bad_zero ho
  have hb : Bnd (begin st o.tx) k := by
    unfold begin; split
    · exact h
    · exact ⟨h.rd, h.wr, h.it, h.v, h.d⟩
  unfold OfM.step
  dsimp only
  generalize begin st o.tx = s at hb
  split
  · refine ⟨fun x => ?_, fun x hx => Nat.le_trans (hb.wr x hx) (by omega), hb.it, fun r hr => Nat.le_trans (hb.v r hr) (by omega), Nat.le_trans hb.d (by omega)⟩
    simp only [upd]; split
    · rw [List.length_append, List.length_singleton]; have := hb.rd o.tx.toNat; omega
    · have := hb.rd x; omega
  · split
    · refine ⟨fun x => Nat.le_trans (hb.rd x) (by omega), fun x hx => ?_, fun x hx i hi => ?_, fun r hr => ?_, Nat.le_trans hb.d (by omega)⟩
      · simp only [upd]; split
        · rw [List.length_append, List.length_singleton]; have := hb.wr o.tx.toNat (by omega); omega
        · have := hb.wr x hx; omega
      · simp only [upd] at hi; split at hi
        · rcases List.mem_append.1 hi with hi | hi
          · exact hb.it _ (by omega) i hi
          · simp at hi; subst hi; exact ⟨h2, h3⟩
        · exact hb.it x hx i hi
      · simp only [upd]; rw [if_neg (by omega)]; have := hb.v r hr; omega
    · split
      · refine ⟨fun x => Nat.le_trans (hb.rd x) (by omega), fun x hx => ?_, fun x hx i hi => ?_, fun r hr => ?_, ?_⟩
        · dsimp only; rw [put_low _ _ _ _ hx]; have := hb.wr x hx; omega
        · dsimp only at hi; rw [put_low _ _ _ _ hx] at hi; exact hb.it x hx i hi
        · have h5 := put_len o.tx (s.rows o.tx.toNat) s.rows r
          have h6 := hb.wr o.tx.toNat (by omega)
          have h7 := hb.v r hr
          dsimp only; omega
        · dsimp only; rw [List.length_append, List.length_singleton]; have := hb.d; omega
      · exact ⟨fun x => Nat.le_trans (hb.rd x) (by omega), fun x hx => Nat.le_trans (hb.wr x hx) (by omega), hb.it, fun r hr => Nat.le_trans (hb.v r hr) (by omega), Nat.le_trans hb.d (by omega)⟩
theorem Bnd.run {l : List OpM} {ds : List DidM} (hl : l.length ≤ 200) (hd : ds.length = l.length) (hb : ∀ o ∈ l, RunM.bad o = 0) : ∀ k, k ≤ l.length → Bnd (OfM.run l ds k) k
  | 0, _ => ⟨fun _ => by simp [OfM.run, go, start], fun _ _ => by simp [OfM.run, go, start], fun _ _ i hi => by simp [OfM.run, go, start] at hi, fun _ _ => by simp [OfM.run, go, start], by simp [OfM.run, go, start]⟩
  | k + 1, h => by
    rw [run_succ (by omega) (by omega)]
    exact (Bnd.run hl hd hb k (by omega)).step (by omega) (hb _ (List.getElem_mem _))
/-- Who committed did so at an operation. -/
theorem done_at {l : List OpM} {ds : List DidM} (hd : ds.length = l.length) : ∀ k, k ≤ l.length → ∀ t ∈ (OfM.run l ds k).done, ∃ i, ∃ h : i < l.length, i < k ∧ l[i].tx = t ∧ l[i].kind = 3
  | 0, _, t, ht => by simp [OfM.run, go, start] at ht
  | k + 1, h, t, ht => by
    rw [run_succ (by omega) (by omega)] at ht
    have hb : ∀ st t, (begin st t).done = st.done := fun st t => by unfold begin; split <;> rfl
    unfold OfM.step at ht
    dsimp only at ht
    have key : t ∈ (OfM.run l ds k).done → ∃ i, ∃ h : i < l.length, i < k + 1 ∧ l[i].tx = t ∧ l[i].kind = 3 := fun h5 => by
      obtain ⟨i, h1, h2, h3⟩ := done_at hd k (by omega) t h5
      exact ⟨i, h1, by omega, h3⟩
    split at ht
    · exact key (by rw [hb] at ht; exact ht)
    · split at ht
      · exact key (by rw [hb] at ht; exact ht)
      · split at ht
        · rename_i h3
          dsimp only at ht
          rw [hb] at ht
          rcases List.mem_append.1 ht with ht | ht
          · exact key ht
          · simp at ht
            exact ⟨k, by omega, by omega, ht.symm, h3.1⟩
        · exact key (by rw [hb] at ht; exact ht)
theorem go_one {l : List OpM} (h : RunM.go l (fun _ => false) = 0) {i j : Nat} (hj : j < l.length) (hij : i < j) (ht : (l[i]'(by omega)).tx.toNat = l[j].tx.toNat) : (l[i]'(by omega)).kind < 3 := by
  have h1 : RunM.go (l.take (j + 1)) (fun _ => false) = 0 := RunM.go_left' (l.take (j + 1)) (l.drop (j + 1)) _ (by rw [List.take_append_drop]; exact h)
  rw [List.take_succ_eq_append_getElem hj] at h1
  refine (RunM.go_mid _ _ _ h1).2 _ ?_ ht
  exact List.mem_take_iff_getElem.2 ⟨i, by omega, rfl⟩
end OfM
end
section
open Go.RowKit Go.Lib Go.Sort

theorem cmpI_lt (a b : Int) : Lib.compareInt a b < 0 ↔ a < b := by
  unfold Lib.compareInt
  by_cases h1 : a < b
  · simp [h1]
  · by_cases h2 : b < a <;> simp [h1, h2]
theorem ltI_iff (a b : Int) : ltOf Lib.compareInt a b = true ↔ a < b := by
  unfold ltOf; rw [decide_eq_true_eq, cmpI_lt]
theorem ltI_no (a b : Int) : ltOf Lib.compareInt a b = false ↔ ¬ a < b := by
  rw [← ltI_iff]; simp
theorem ltI_swo : SWO (ltOf Lib.compareInt) where
  irrefl x := by rw [ltI_no]; omega
  trans x y z h1 h2 := by rw [ltI_iff] at *; omega
  ntrans x y z h1 h2 := by rw [ltI_no] at *; omega
theorem ltI_whole (x y : Int) (h1 : ltOf Lib.compareInt x y = false) (h2 : ltOf Lib.compareInt y x = false) : x = y := by
  rw [ltI_no] at h1 h2; omega
def sortI (l : List Int) : List Int := l.mergeSort fun x y => !(ltOf Lib.compareInt) y x
theorem sortI_perm (l : List Int) : (sortI l).Perm l := List.mergeSort_perm _ _
theorem sortI_pair (l : List Int) : (sortI l).Pairwise fun x y => x ≤ y := by
  have := List.pairwise_mergeSort (le := fun x y => !(ltOf Lib.compareInt) y x) (fun a b c h1 h2 => by
      simp only [Bool.not_eq_true', ltI_no] at *; omega) (fun a b => by
      cases h1 : ltOf Lib.compareInt b a <;> cases h2 : ltOf Lib.compareInt a b <;> simp
      rw [ltI_iff] at h1 h2; omega) l
  exact this.imp (fun h => by rw [Bool.not_eq_true', ltI_no] at h; omega)

set_option maxRecDepth 20000 in
set_option maxHeartbeats 4000000 in
theorem taleCmp_any (a b : Int) (ua va : Option Addr) (un uc vn vc : Nat) (W : World) : Calls Try.prog 64 #[.agg #[.int .i64 a, .slice ua un uc], .agg #[.int .i64 b, .slice va vn vc]] W fun e w' => e = .returned (.int .i64 (Lib.compareInt a b)) ∧ ∃ q os', w' = grow (W.drewN q) os' := by
  have hcon := fun a b W' => AnyG.cmp_Compare_int Try.cmpInt a b W'
  change ∀ a b W', Calls Try.prog 65 _ _ _ at hcon
  have HC := box hcon
  clear hcon
  go_enter Try.func64, Try.ntmps64
  go_upto_region 1 with (fail)
  refine name_world (fun V => Box (∃ os', V = grow (W.drewN 0) os') ∧ V.cell? ⟨W.heap.size, 0, none⟩ = some (.int .i64 a) ∧ V.cell? ⟨W.heap.size + 1, 0, none⟩ = some (.int .i64 b)) ?_ ?_
  · have h1 := Blk.new W [.int .i64 a, .slice ua un uc] 30
    have h2 := h1.alloc (.cells #[.int .i64 b, .slice va vn vc] 30)
    have h3 := Blk.new (W.alloc (.cells #[.int .i64 a, .slice ua un uc] 30)) [.int .i64 b, .slice va vn vc] 30
    rw [show (W.alloc (.cells #[.int .i64 a, .slice ua un uc] 30)).heap.size = W.heap.size + 1 by simp] at h3
    exact ⟨⟨_, by rw [alloc_eq_grow, alloc_eq_grow, grow_grow]; rfl⟩, h2.cell rfl, h3.cell rfl⟩
  rintro V ⟨HG, a0, b0⟩
  go_wp2_with fail
  refine (HC.out _ _ _).mono ?_
  rintro e w9 ⟨rfl, rfl⟩
  go_wp2_with fail
  go_ret
  exact ⟨rfl, 0, by
    obtain ⟨os', hV⟩ := HG.out
    exact ⟨_, hV⟩⟩

/-- What SortFunc leaves of a row of tales. -/
theorem taleSort_any (l : List Int) (vr : Nat → Value) (ra : Nat → Option Addr) (rn rc : Nat → Nat) (hvr : ∀ y, vr y = .slice (ra y) (rn y) (rc y)) (v : Value) (base : Nat) (w : World) (ho : w.ownsRow base 30 2 v l.length (OfM.talesV vr l)) (hn : l.length ≤ 9000000000) :
    Calls Try.prog 63 #[v, .func (.func 64) #[] #[]] w fun e w' =>
      e = .returned (.tuple #[]) ∧ w'.ownsRow base 30 2 v l.length (OfM.talesV vr (sortI l)) ∧ w.grownBy w' v.ownBlock := by
  rcases ho.2 with ⟨h1, h2⟩ | ⟨g, cap, cur, h1, h2, h3, h4, h5⟩
  · have hl : l = [] := List.eq_nil_of_length_eq_zero h2
    subst hl
    subst h1
    have hcon := AnyF.slices_SortFunc_none Try.sortTale none 0 (.func (.func 64) #[] #[]) w
    change Calls Try.prog 63 _ _ _ at hcon
    refine hcon.mono ?_
    rintro e w' ⟨rfl, rfl⟩
    exact ⟨rfl, by rw [show sortI [] = [] by simp [sortI]]; exact ho, World.grownBy.refl _ _⟩
  · have HO := ho
    subst h1
    have hk : ∀ x : Int, ([Value.int .i64 x, vr x.toNat] : List Value).length = 2 := fun _ => rfl
    have he : ∀ l : List Int, l.flatMap (fun x => [Value.int .i64 x, vr x.toNat]) = OfM.talesV vr l := fun l => rfl
    have eg : ∀ args w, (callFunc 64 args).run Try.prog w = .ok (.enter 64 args) w := enters_fn Try.func64 (by kernel_rfl) rfl
    have hH : HoldsK (fun x : Int => [Value.int .i64 x, vr x.toNat]) 2 w g 0 l.toArray := SortM.holds (base := base) (e := 30) (n := l.length) (cap := cap) hk (by rw [he]; exact ho)
    have hcon := AnyQ.slices_SortFunc_total Try.sortTale 2 Try.isAgg30 Try.sizeOf30 (fun x : Int => [Value.int .i64 x, vr x.toNat]) hk (fun x v hv => by simp at hv; rcases hv with rfl | rfl; rfl; rw [hvr]; rfl) Lib.compareInt ltI_swo 64 #[] g 0 cap l.toArray w eg (fun _ _ _ _ x y => by
      have := taleCmp_any x y (ra x.toNat) (ra y.toNat) (rn x.toNat) (rc x.toNat) (rn y.toNat) (rc y.toNat)
      rw [← hvr, ← hvr] at this
      exact this _) hH (Array.getElem?_eq_some_iff.1 h3).1 (by simp; omega) ltI_whole
    change Calls Try.prog 63 _ _ _ at hcon
    rw [List.size_toArray] at hcon
    refine hcon.mono ?_
    rintro e w' ⟨rfl, n, os, rfl⟩
    have hlen : (sortI l).length = l.length := (sortI_perm l).length_eq
    have hA := SortM.after (l := l) (l' := sortI l) (base := base) (e := 30) (n := l.length) (cap := cap) (g := g) (w := w) hk hlen (by rw [he]; exact ho) n os
    have hG := SortM.grown (enc := fun x : Int => [Value.int .i64 x, vr x.toNat]) (k := 2) (w := w) (g := g) (sortI l) n os
    rw [he] at hA
    exact ⟨rfl, hA, hG⟩
end
section
open Go.RowKit Go.Lib

/-- The story that is made: plain. -/
structure OfM.Tells (st : OfSt) (s : StoL) : Prop where
  len : s.tls.length = st.done.length
  tl : ∀ i, i < s.tls.length → (s.tls[i]!).tx = (sortI st.done)[i]! ∧ (s.tls[i]!).gs = st.reads ((sortI st.done)[i]!).toNat
  vl : s.vrs.length = 20
  vr : ∀ k, k < 20 → (s.vrs[k]!).vs = st.rows (12 + k)
/-- What order.Of leaves. -/
def OfM.Post (l : List OpM) (ds : List DidM) (w : World) (e : Ending) (w' : World) : Prop :=
  Below w.heap.size w w' ∧ ∃ s : StoL, OfM.Tells (OfM.run l ds l.length) s ∧ ((s.Ok ∧ StoAt w' s ∧ e = .returned (.tuple #[.agg #[.slice s.ta s.tls.length s.tc, .slice s.ra s.vrs.length s.rc], .int .i64 0])) ∨
    (¬ s.Ok ∧ e = .returned (.tuple #[.agg #[.slice none 0 0, .slice none 0 0], .int .i64 4])))
theorem gotsAt_own {w : World} {base : Nat} {ao : Option Addr} {cap : Nat} {l : List EgM} (h : w.ownsRow base 27 2 (.slice ao l.length cap) l.length (egVals l)) : EgsAt w ao l := by
  rcases h.2 with ⟨h1, h2⟩ | ⟨g, cap', cur, h1, h2, h3, h4, _⟩
  · exact Or.inl (List.eq_nil_of_length_eq_zero h2)
  · injection h1 with h1 _ h5
    subst h1
    refine Or.inr ⟨g, 0, rfl, (Array.getElem?_eq_some_iff.1 h3).1, fun k hk => ?_⟩
    obtain ⟨c0, c1⟩ := egVals_at l k hk
    rw [Nat.zero_add, h.cellAt (k * 2) (by omega), h.cellAt (k * 2 + 1) (by omega)]
    exact ⟨c0, c1⟩
theorem talesAt_own {w : World} {base : Nat} {ao : Option Addr} {cap : Nat} {l : List TaleL} {xs : List Value} (hx : xs = l.flatMap fun t => [.int .i64 t.tx, .slice t.ga t.gs.length t.gc]) (h : w.ownsRow base 30 2 (.slice ao l.length cap) l.length xs) : TalesAt w ao l := by
  rcases h.2 with ⟨h1, h2⟩ | ⟨g, cap', cur, h1, h2, h3, h4, _⟩
  · exact Or.inl (List.eq_nil_of_length_eq_zero h2)
  · injection h1 with h1 _ h5
    subst h1
    have key : ∀ (l : List TaleL) (k : Nat) (hk : k < l.length), (l.flatMap fun t => [Value.int .i64 t.tx, .slice t.ga t.gs.length t.gc])[k * 2]? = some (.int .i64 l[k].tx) ∧ (l.flatMap fun t => [Value.int .i64 t.tx, .slice t.ga t.gs.length t.gc])[k * 2 + 1]? = some (.slice l[k].ga l[k].gs.length l[k].gc) := by
      intro l
      induction l with
      | nil => intro k h; simp at h
      | cons v r ih =>
        intro k h
        cases k with
        | zero => exact ⟨rfl, rfl⟩
        | succ k =>
          have h2 := ih k (by simpa using h)
          have e1 : (k + 1) * 2 = k * 2 + 1 + 1 := by omega
          rw [e1]
          simp only [List.flatMap_cons, List.cons_append, List.nil_append, List.getElem?_cons_succ, List.getElem_cons_succ]
          exact h2
    refine Or.inr ⟨g, 0, rfl, (Array.getElem?_eq_some_iff.1 h3).1, fun k hk => ?_⟩
    obtain ⟨c0, c1⟩ := key l k hk
    rw [Nat.zero_add, h.cellAt (k * 2) (by omega), h.cellAt (k * 2 + 1) (by omega), hx]
    exact ⟨c0, c1⟩
theorem own_cap {w : World} {base e size n : Nat} {ao : Option Addr} {cap : Nat} {xs : List Value} (h : w.ownsRow base e size (.slice ao n cap) n xs) : n ≤ cap ∧ cap ≤ 9223372036854775807 := by
  rcases h.2 with ⟨h1, h2⟩ | ⟨g, cap', cur, h1, h2, h3, h4, h5, _⟩
  · injection h1 with _ h6 h7; subst h2; subst h7; exact ⟨Nat.le_refl _, by omega⟩
  · injection h1 with _ _ h7
    subst h7
    unfold maxLen at h5
    exact ⟨h4, by omega⟩
/-- What is left of the rows, in a later world. -/
structure OfM.Left (w : World) (V : Nat) (st : OfSt) (v vr : Nat → Value) (vt : Value) (w' : World) : Prop where
  fam : ∀ j, j < 32 → w'.ownsRow w.heap.size 3 1 (v j) (st.rows j).length (intVals (st.rows j))
  fr : ∀ j, j < 12 → w'.ownsRow w.heap.size 27 2 (vr j) (st.reads j).length (egVals (st.reads j))
  vb : Blk w' V 31 (Tab 20 fun i => v (12 + i))
  tl : w'.ownsRow w.heap.size 30 2 vt st.done.length (OfM.talesV vr (sortI st.done))
theorem OfM.Left.after {w w' w2 : World} {V : Nat} {st : OfSt} {v vr : Nat → Value} {vt : Value} (h : OfM.Left w V st v vr vt w') (hb : Below w'.heap.size w' w2) : OfM.Left w V st v vr vt w2 :=
  ⟨fun j hj => ownsRow_below (h.fam j hj) hb, fun j hj => ownsRow_below (h.fr j hj) hb, h.vb.after hb, ownsRow_below h.tl hb⟩
theorem OfM.Left.set {w w' : World} {V R : Nat} {st : OfSt} {v vr : Nat → Value} {vt : Value} {C : List Value} (h : OfM.Left w V st v vr vt w') (hR : Blk w' R 25 C) (i : Nat) (u : Value) : OfM.Left w V st v vr vt (w'.setCell ⟨R, i, none⟩ u) :=
  ⟨fun j hj => ownsRow_setCell_other (h.fam j hj) (hR.ne_own (h.fam j hj) (by decide)) _, fun j hj => ownsRow_setCell_other (h.fr j hj) (hR.ne_own (h.fr j hj) (by decide)) _, h.vb.other (h.vb.ne hR (by decide)) _, ownsRow_setCell_other h.tl (hR.ne_own h.tl (by decide)) _⟩
theorem OfM.OW.left {w wr w' : World} {M N O V R : Nat} {bt : Nat → Nat} {st : OfSt} {v vr : Nat → Value} {vt : Value} (h : OfM.OW w M N O V R bt st v vr vt wr) (hg : wr.grownBy w' vt.ownBlock) (ho : w'.ownsRow w.heap.size 30 2 vt st.done.length (OfM.talesV vr (sortI st.done))) : OfM.Left w V st v vr vt w' :=
  ⟨fun j hj => own_far h.tl hg (h.fam.own j hj) (by decide), fun j hj => own_far h.tl hg (h.fr.own j hj) (by decide), h.vb.grown hg (h.vb.ne_own h.tl (by decide)), ho⟩
/-- The story that stands behind the loop, the tales put in order. -/
theorem OfM.story {w wr : World} {M N O V R : Nat} {bt : Nat → Nat} {st : OfSt} {v vr : Nat → Value} {vt : Value} (h : OfM.OW w M N O V R bt st v vr vt wr) (hb : OfM.Bnd st 200) {ta : Option Addr} {tc : Nat} (hvt : vt = .slice ta st.done.length tc) :
    ∃ s : StoL, OfM.Tells st s ∧ (s.ta = ta ∧ s.tc = tc ∧ s.ra = some ⟨V, 0, none⟩ ∧ s.rc = 20) ∧ ∀ w', OfM.Left w V st v vr vt w' → StoAt w' s := by
  have hS : ∀ y : Nat, ∃ p : Option Addr × Nat, y < 12 → vr y = .slice p.1 (st.reads y).length p.2 := fun y => by
    by_cases hy : y < 12
    · obtain ⟨a, c, e⟩ := own_shape (h.fr.own y hy)
      exact ⟨(a, c), fun _ => e⟩
    · exact ⟨(none, 0), fun h => absurd h hy⟩
  obtain ⟨P, hP⟩ := Classical.axiomOfChoice hS
  have hV : ∀ k : Nat, ∃ p : Option Addr × Nat, k < 20 → v (12 + k) = .slice p.1 (st.rows (12 + k)).length p.2 := fun y => by
    by_cases hy : y < 20
    · obtain ⟨a, c, e⟩ := own_shape (h.fam.own (12 + y) (by omega))
      exact ⟨(a, c), fun _ => e⟩
    · exact ⟨(none, 0), fun h => absurd h hy⟩
  obtain ⟨Q, hQ⟩ := Classical.axiomOfChoice hV
  have hlen : (sortI st.done).length = st.done.length := (sortI_perm _).length_eq
  have hdm : ∀ t ∈ sortI st.done, 0 ≤ t ∧ t < 12 := fun t ht => h.keys.2 t (h.dn t ((sortI_perm _).mem_iff.1 ht))
  refine ⟨⟨(sortI st.done).map fun t => ⟨t, (P t.toNat).1, (P t.toNat).2, st.reads t.toNat⟩, ta, tc, (List.range 20).map fun k => ⟨(Q k).1, (Q k).2, st.rows (12 + k)⟩, some ⟨V, 0, none⟩, 20⟩, ⟨by simp [hlen], fun i hi => ?_, by simp, fun k hk => ?_⟩, ⟨rfl, rfl, rfl, rfl⟩, fun w' hL => ⟨?_, ?_, ?_, ?_, ?_, ?_, ?_⟩⟩
  · have hi2 : i < (sortI st.done).length := by simpa using hi
    dsimp only
    rw [getElem!_pos _ i hi, getElem!_pos (sortI st.done) i hi2]
    simp
  · dsimp only
    rw [getElem!_pos _ k (by simpa using hk)]
    simp
  · refine talesAt_own (base := w.heap.size) (cap := tc) (xs := OfM.talesV vr (sortI st.done)) ?_ ?_
    · rw [List.flatMap_map]
      unfold OfM.talesV
      have : ∀ l : List Int, (∀ t ∈ l, 0 ≤ t ∧ t < 12) → (l.flatMap fun t => [Value.int .i64 t, vr t.toNat]) = l.flatMap fun t => [Value.int .i64 t, .slice (P t.toNat).1 (st.reads t.toNat).length (P t.toNat).2] := by
        intro l hl
        induction l with
        | nil => rfl
        | cons t r ih =>
          simp only [List.flatMap_cons]
          rw [ih (fun u hu => hl u (List.mem_cons_of_mem _ hu)), hP t.toNat (by have := hl t List.mem_cons_self; omega)]
      exact this _ hdm
    · dsimp only
      rw [List.length_map, hlen]
      have ho := hL.tl
      rw [hvt] at ho
      exact ho
  · intro t ht
    obtain ⟨u, hu, rfl⟩ := List.mem_map.1 ht
    have hu2 := hdm u hu
    have h1 := hL.fr u.toNat (by omega)
    rw [hP u.toNat (by omega)] at h1
    exact gotsAt_own h1
  · right
    have hVb := hL.vb
    refine ⟨V, 0, rfl, hVb.lt, fun k hk => ?_⟩
    have hk2 : k < 20 := by simpa using hk
    rw [Nat.zero_add, hVb.tabCell hk2, hQ k hk2]
    simp
  · intro u hu
    obtain ⟨k, hk, rfl⟩ := List.mem_map.1 hu
    have hk2 : k < 20 := by simpa using hk
    have h1 := hL.fam (12 + k) (by omega)
    rw [hQ k hk2] at h1
    obtain ⟨a, c, e, _, h2, _, _⟩ := IntsAt.own h1
    injection e with e _ _
    subst e
    exact h2
  · intro u hu
    obtain ⟨k, hk, rfl⟩ := List.mem_map.1 hu
    have hk2 : k < 20 := by simpa using hk
    have h1 := h.fam.own (12 + k) (by omega)
    rw [hQ k hk2] at h1
    have h2 := own_cap h1
    have h3 := hb.v (12 + k) (by omega)
    dsimp only
    exact ⟨h2.1, h2.2, by omega⟩
  · intro t ht
    obtain ⟨u, hu, rfl⟩ := List.mem_map.1 ht
    have := hb.rd u.toNat
    dsimp only; omega
  · have := hb.d
    dsimp only
    rw [List.length_map, List.length_map, List.length_range, hlen]
    omega
end
end Go.Proofs.Ytgkclgmekbgjmaa
