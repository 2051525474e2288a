/- see.view: plain, and its memory. -/
import Derived.Test.YtnhhjjhhicmfpaaEg
import Derived.Test.YtnhhjjhhicmfpaaHeap
import Derived.Maps.RangeRun
import Derived.WideKeyRuns
import Derived.DeepKeys
import Derived.Test.YtnhhjjhhicmfpaaSeeN
namespace Go.Proofs.Ytnhhjjhhicmfpaa
section
open Go.RowKit Go.Lib

def nmV (e : EgM) : Value := .agg #[.int .i64 e.frm, .int .i64 e.to_]
def stEnts : Nat → List (EgM × EgM) → List MapEntry
  | _, [] => []
  | s, p :: r => { key := nmV p.1, val := nmV p.2, born := s } :: stEnts (s + 1) r
/-- Block b is the map l, its entries in the order in which they were laid. -/
def StMap (w : World) (b : Nat) (l : List (EgM × EgM)) : Prop := w.heap[b]? = some (.map (stEnts 0 l).toArray l.length)
theorem stEnts_append : ∀ (l : List (EgM × EgM)) (s : Nat) (p : EgM × EgM), stEnts s (l ++ [p]) = stEnts s l ++ [{ key := nmV p.1, val := nmV p.2, born := s + l.length }]
  | [], s, p => rfl
  | q :: r, s, p => by
    rw [List.cons_append, stEnts, stEnts, stEnts_append r, List.cons_append, List.length_cons]
    rw [show s + 1 + r.length = s + (r.length + 1) by omega]
theorem stEnts_mem : ∀ {l : List (EgM × EgM)} {s : Nat} {x : MapEntry}, x ∈ stEnts s l → s ≤ x.born ∧ x.born < s + l.length ∧ ∃ p ∈ l, x.key = nmV p.1 ∧ x.val = nmV p.2
  | p :: r, s, x, h => by
    rcases List.mem_cons.1 h with rfl | h
    · exact ⟨Nat.le_refl _, by simp, p, by simp, rfl, rfl⟩
    · obtain ⟨h1, h2, q, hq, h3⟩ := stEnts_mem h
      exact ⟨by omega, by simp; omega, q, by simp [hq], h3⟩
theorem stEnts_has : ∀ {l : List (EgM × EgM)} {s : Nat} {p : EgM × EgM}, p ∈ l → ∃ x ∈ stEnts s l, x.key = nmV p.1 ∧ x.val = nmV p.2
  | q :: r, s, p, h => by
    rcases List.mem_cons.1 h with rfl | h
    · exact ⟨_, List.mem_cons_self, rfl, rfl⟩
    · obtain ⟨x, hx, h2⟩ := stEnts_has (s := s + 1) h
      exact ⟨x, List.mem_cons_of_mem _ hx, h2⟩
theorem stEnts_born : ∀ (l : List (EgM × EgM)) (s : Nat), ((stEnts s l).map (·.born)).Nodup
  | [], _ => List.nodup_nil
  | p :: r, s => by
    rw [stEnts, List.map_cons, List.nodup_cons]
    refine ⟨?_, stEnts_born r _⟩
    intro h
    obtain ⟨x, hx, e⟩ := List.mem_map.1 h
    have := (stEnts_mem hx).1
    simp only at e; omega

theorem nm_eq (a b : EgM) (w : World) : (Op.equalIn 10000 93 (nmV a) (nmV b)).run Try.prog w = .ok (decide (a = b)) w := by
  obtain ⟨a0, a1⟩ := a
  obtain ⟨c0, c1⟩ := b
  have hd : decide ((⟨a0, a1⟩ : EgM) = ⟨c0, c1⟩) = (a0 == c0 && a1 == c1) := by
    rw [Bool.eq_iff_iff]; simp
  rw [hd]
  unfold nmV
  dsimp only
  cases h0 : (a0 == c0) <;> cases h1 : (a1 == c1) <;> go_simp
/-- Where a key lies, and its element. -/
def stLook (k : EgM) : List (EgM × EgM) → Nat → Option (Nat × Value)
  | [], _ => none
  | p :: r, i => if k = p.1 then some (i, nmV p.2) else stLook k r (i + 1)
theorem stLook_none {k : EgM} : ∀ {l : List (EgM × EgM)} {i : Nat}, (∀ p ∈ l, k ≠ p.1) → stLook k l i = none
  | [], _, _ => rfl
  | p :: r, i, h => by
    rw [stLook, if_neg (h p (by simp)), stLook_none (fun q hq => h q (by simp [hq]))]
theorem stLook_some {k v : EgM} : ∀ {l : List (EgM × EgM)} {i : Nat}, (l.map Prod.fst).Nodup → (k, v) ∈ l → ∃ j, stLook k l i = some (j, nmV v)
  | p :: r, i, hn, h => by
    rw [List.map_cons, List.nodup_cons] at hn
    rw [stLook]
    rcases List.mem_cons.1 h with rfl | h
    · exact ⟨i, by rw [if_pos rfl]⟩
    · by_cases e : k = p.1
      · exfalso
        exact hn.1 (List.mem_map.2 ⟨(k, v), h, e⟩)
      · rw [if_neg e]; exact stLook_some hn.2 h
theorem findAsking_st (k : EgM) : ∀ (l : List (EgM × EgM)) (s i : Nat) (w : World), (Instr.findAsking 93 (nmV k) (stEnts s l) i).run Try.prog w = .ok (stLook k l i) w
  | [], s, i, w => by simp [stEnts, Instr.findAsking, stLook]
  | p :: r, s, i, w => by
    have h1 := nm_eq k p.1 w
    have ih := findAsking_st k r (s + 1) (i + 1) w
    have h2 : (Op.equal 93 (nmV k) (nmV p.1)).run Try.prog w = .ok (decide (k = p.1)) w := h1
    rw [stEnts, Instr.findAsking, stLook]
    simp only [Sem.run_bind, h2, Result.andThen_ok]
    by_cases e : k = p.1
    · rw [decide_eq_true e, if_pos e]; simp
    · rw [decide_eq_false e, if_neg e]; simpa using ih
theorem findKey_st (k : EgM) (l : List (EgM × EgM)) (w : World) : (Instr.findKey 93 (nmV k) (stEnts 0 l)).run Try.prog w = .ok (stLook k l 0) w := by
  rw [run_findKey_eq w (by rw [Try.underlying93]) (nmV k) (stEnts 0 l)]
  exact findAsking_st k l 0 0 w
theorem checkKey_st (k : EgM) (em : Bool) (w : World) : (Instr.checkKey em 10000 93 (nmV k)).run Try.prog w = .ok () w := by
  unfold nmV
  have h0 : (part 3 #[Value.int .i64 k.frm, .int .i64 k.to_] 0).run Try.prog w = .ok (.int .i64 k.frm) w := by unfold part; go_simp
  have h1 : (part 3 #[Value.int .i64 k.frm, .int .i64 k.to_] 1).run Try.prog w = .ok (.int .i64 k.to_) w := by unfold part; go_simp
  have hc : ∀ (n : Nat) (x : Int), (Instr.checkKey em (n + 1) 3 (.int .i64 x)).run Try.prog w = .ok () w := fun n x => by
    simp [Instr.checkKey, run_underlying Try.underlying3]
  rw [Instr.checkKey]
  simp [run_underlying Try.underlying93, h0, h1, hc, Result.andThen]
section
variable {w w' : World} {b : Nat} {l : List (EgM × EgM)} {k v : EgM}
theorem StMap.lt (h : StMap w b l) : b < w.heap.size := (Array.getElem?_eq_some_iff.1 h).1
theorem StMap.after (h : StMap w b l) (hb : Below w.heap.size w w') : StMap w' b l := (hb.block b h.lt).trans h
theorem StMap.grown (h : StMap w b l) {row : Option Nat} (hg : w.grownBy w' row) (hr : row ≠ some b) : StMap w' b l := (hg.block b h.lt (Ne.symm hr)).trans h
theorem StMap.ne {t : Nat} {C : List Value} {b' : Nat} (h : StMap w b l) (h' : Blk w b' t C) : b ≠ b' := by
  rintro rfl
  unfold StMap at h; unfold Blk at h'
  rw [h] at h'
  cases h'
theorem StMap.other (h : StMap w b l) {p : Addr} (hp : b ≠ p.block) (v : Value) : StMap (w.setCell p v) b l := (Below.heap_setCell _ _ _ _ hp).trans h
theorem StMap.ne_own {e base size n : Nat} {xs : List Value} {v : Value} (h : StMap w b l) (ho : w.ownsRow base e size v n xs) : v.ownBlock ≠ some b := by
  intro hb
  rcases ho.2 with ⟨rfl, _⟩ | ⟨g, cap, cur, rfl, _, hg, _⟩
  · simp [Value.ownBlock] at hb
  · simp only [Value.ownBlock, Option.some.injEq] at hb
    subst hb
    unfold StMap at h
    rw [h] at hg
    cases hg
/-- A new key. -/
theorem StMap.update (h : StMap w b l) (hk : ∀ p ∈ l, k ≠ p.1) : ∃ w', (Instr.mapUpdate 91 (.map (some b)) (nmV k) (nmV v)).run Try.prog w = .ok () w' ∧ StMap w' b (l ++ [(k, v)]) ∧ w.grownBy w' (some b) := by
  have hlt := h.lt
  have hg := MapKept.run_getObj_map (P := Try.prog) h
  have hf := findKey_st k l w
  rw [stLook_none hk] at hf
  refine ⟨{ w with heap := w.heap.setIfInBounds b (.map (stEnts 0 (l ++ [(k, v)])).toArray (l ++ [(k, v)]).length) }, ?_, ?_, ⟨rfl, rfl, rfl, by simp, fun j hj hne => ?_⟩⟩
  · have e : (stEnts 0 l).toArray.push { key := nmV k, val := nmV v, born := l.length } = (stEnts 0 (l ++ [(k, v)])).toArray := by
      rw [stEnts_append]; simp
    simp only [Instr.mapUpdate, Sem.run_bind, run_underlying Try.underlying91, hg, checkKey_st, hf, Result.andThen_ok, MapKept.run_setObj_map _ h, e, List.length_append, List.length_singleton]
  · unfold StMap
    simp [hlt]
  · have : b ≠ j := fun e => hne (by rw [e])
    simp [this]
theorem StMap.lookup (h : StMap w b l) : (Instr.lookup 91 (.map (some b)) (nmV k) true).run Try.prog w = .ok (.tuple (match stLook k l 0 with | some (_, u) => #[u, .bool true] | none => #[nmV ⟨0, 0⟩, .bool false])) w := by
  have hg := MapKept.run_getObj_map (P := Try.prog) h
  have hf := findKey_st k l w
  have hz := Try.zeroValue93 w
  have hck := checkKey_st k (stEnts 0 l).isEmpty w
  cases hs : stLook k l 0 with
  | none =>
    rw [hs] at hf
    simp [Instr.lookup, run_underlying Try.underlying91, hg, hck, hf, hz, Result.andThen]
    rfl
  | some q =>
    rw [hs] at hf
    simp [Instr.lookup, run_underlying Try.underlying91, hg, hck, hf, Result.andThen]
end
end
section
open Go.RowKit Go.Lib

set_option maxRecDepth 20000 in
set_option maxHeartbeats 4000000 in
theorem viewAt_any (l : List OpM) (k : Int) (P : Nat) (no : Option Addr) (nc : Nat) (w : World) (hP : Blk w P 146 [.slice no l.length nc]) (hn : EgsAt w no (SeeM.namesTo l l.length)) (h1 : -1 ≤ k) (h2 : k < l.length) :
    Calls Try.prog 77 #[.int .i64 k, .pointer (some ⟨P, 0, none⟩)] w fun e w' => e = .returned (nmV (SeeM.nmOf l k)) ∧ Below w.heap.size w w' := by
  have HP := box hP; have HNm := box hn
  have hlt := hP.lt
  have c0 := hP.cell (i := 0) rfl
  obtain ⟨n, HN⟩ : ∃ n, Box (l.length = n) := ⟨_, ⟨rfl⟩⟩
  rw [HN.out] at c0 h2
  clear hP hn
  by_cases hk : k < 0
  · have hk1 : k = -1 := by omega
    subst hk1
    have HE : Box (SeeM.nmOf l (-1) = ⟨-1, -1⟩) := ⟨rfl⟩
    rw [HE.out]
    unfold nmV
    go_enter Try.func77, Try.ntmps77
    go_upto_region 1 with (fail)
    refine name_world (fun W => Below w.heap.size w W ∧ Blk W w.heap.size 93 [.int .i64 0, .int .i64 0]) ⟨(Below.refl _ _).alloc (Nat.le_refl _) _, Blk.new _ _ _⟩ ?_
    rintro W ⟨hbW, hkW⟩
    have HBW := box hbW
    have f0 := hkW.frozen 0
    have f1 := hkW.frozen 1
    have d0 := hkW.cell (i := 0) rfl
    have d1 := hkW.cell (i := 1) rfl
    have hB := hkW.lt
    have HF : Box (Blk ((W.setCell ⟨w.heap.size, 0, none⟩ (.int .i64 (-1))).setCell ⟨w.heap.size, 1, none⟩ (.int .i64 (-1))) w.heap.size 93 [.int .i64 (-1), .int .i64 (-1)]) := ⟨(hkW.set 0 _).set 1 _⟩
    clear hbW hkW
    go_wp2_with fail
    have q0 := HF.out.cell (i := 0) rfl
    have q1 := HF.out.cell (i := 1) rfl
    refine bodyPost_ret (v := .agg #[.int .i64 (-1), .int .i64 (-1)]) (by simp [results, Try.results77, go_sem, q0, q1]) rfl ⟨rfl, ?_⟩
    exact (HBW.out.setCell (Nat.le_refl _) _).setCell (Nat.le_refl _) _
  · obtain ⟨i, rfl⟩ := Int.eq_ofNat_of_zero_le (show 0 ≤ k by omega)
    have hin : i < n := by omega
    have hil : i < l.length := by rw [HN.out]; exact hin
    have hini : (i : Int) < (n : Int) := by omega
    obtain ⟨b, off, rfl, hb, hrow⟩ := HNm.out.resolve_left (by intro h; have := SeeM.namesTo_len l l.length; rw [h] at this; simp at this; omega)
    obtain ⟨e0, e1⟩ := hrow i (by rw [SeeM.namesTo_len]; exact hil)
    have HE : Box (SeeM.nmOf l (i : Int) = (SeeM.namesTo l l.length)[i]'(by rw [SeeM.namesTo_len]; exact hil)) := ⟨by
      unfold SeeM.nmOf
      rw [if_neg (by omega), Int.toNat_natCast]
      rw [← SeeM.namesTo_get l hil, getElem!_pos _ _ (by rw [SeeM.namesTo_len]; exact hil)]⟩
    rw [HE.out]
    generalize (SeeM.namesTo l l.length)[i]'(by rw [SeeM.namesTo_len]; exact hil) = x at *
    obtain ⟨x0, x1⟩ := x
    simp only at e0 e1
    unfold nmV
    clear hrow HNm hk h1 h2
    have Hb := box hb
    go_enter Try.func77, Try.ntmps77
    go_upto_region 1 with (fail)
    refine name_world (fun W => Below w.heap.size w W ∧ Blk W w.heap.size 93 [.int .i64 0, .int .i64 0] ∧ W.cell? ⟨P, 0, none⟩ = some (.slice (some ⟨b, off, none⟩) n nc) ∧ W.cell? ⟨b, off + i * 2, none⟩ = some (.int .i64 x0) ∧ W.cell? ⟨b, off + i * 2 + 1, none⟩ = some (.int .i64 x1))
      ⟨(Below.refl _ _).alloc (Nat.le_refl _) _, Blk.new _ _ _, (((Below.refl _ _).alloc (Nat.le_refl _) _).cell (p := ⟨P, 0, none⟩) hlt).trans c0, (((Below.refl _ _).alloc (Nat.le_refl _) _).cell (p := ⟨b, off + i * 2, none⟩) hb).trans e0, (((Below.refl _ _).alloc (Nat.le_refl _) _).cell (p := ⟨b, off + i * 2 + 1, none⟩) hb).trans e1⟩ ?_
    rintro W ⟨hbW, hkW, hc, he0, he1⟩
    have HBW := box hbW
    have f0 := hkW.frozen 0
    have f1 := hkW.frozen 1
    have d0 := hkW.cell (i := 0) rfl
    have d1 := hkW.cell (i := 1) rfl
    have hB := hkW.lt
    have HF : Box (Blk ((W.setCell ⟨w.heap.size, 0, none⟩ (.int .i64 x0)).setCell ⟨w.heap.size, 1, none⟩ (.int .i64 x1)) w.heap.size 93 [.int .i64 x0, .int .i64 x1]) := ⟨(hkW.set 0 _).set 1 _⟩
    clear hbW hkW c0 e0 e1
    go_wp2_with fail
    have q0 := HF.out.cell (i := 0) rfl
    have q1 := HF.out.cell (i := 1) rfl
    refine bodyPost_ret (v := .agg #[.int .i64 x0, .int .i64 x1]) (by simp [results, Try.results77, go_sem, q0, q1]) rfl ⟨rfl, ?_⟩
    exact (HBW.out.setCell (Nat.le_refl _) _).setCell (Nat.le_refl _) _
end
section
open Go.RowKit Go.Lib
namespace SeeM

theorem readsTo_mem {l : List OpM} {k : Nat} {s : EgM} (h : s ∈ readsTo l k) : ∃ i : Nat, i < k ∧ s = ⟨(i : Int), lastTo l (l[i]!).item.toNat i⟩ ∧ (l[i]!).kind = 1 := by
  unfold readsTo at h
  obtain ⟨i, hi, rfl⟩ := List.mem_map.1 h
  obtain ⟨h1, h2⟩ := List.mem_filter.1 hi
  exact ⟨i, List.mem_range.1 h1, rfl, by simpa using h2⟩
theorem lastTo_range (l : List OpM) (it k : Nat) : -1 ≤ lastTo l it k ∧ lastTo l it k < k := by
  rcases lastTo_spec l it k with ⟨h, _⟩ | ⟨j, h1, h2, _⟩ <;> omega
theorem ord_lt {l : List OpM} {i j : Nat} (hij : i < j) (hj : j < l.length) (h : (l[i]!).tx = (l[j]!).tx) : RunM.ord l i < RunM.ord l j := by
  unfold RunM.ord
  rw [h]
  have hs : l.take (i + 1) = l.take i ++ [l[i]!] := by
    rw [List.take_succ_eq_append_getElem (by omega), getElem!_pos l i (by omega)]
  have h1 : (l.take (i + 1)).countP (fun o => o.tx == (l[j]!).tx) = (l.take i).countP (fun o => o.tx == (l[j]!).tx) + 1 := by
    rw [hs, List.countP_append, List.countP_singleton, if_pos (by simpa using h)]
  have h2 : (l.take (i + 1)).countP (fun o => o.tx == (l[j]!).tx) ≤ (l.take j).countP (fun o => o.tx == (l[j]!).tx) := by
    refine List.Sublist.countP_le ?_
    exact List.take_sublist_take_left (by omega)
  omega
theorem nmOf_inj {l : List OpM} {i j : Nat} (hi : i < l.length) (hj : j < l.length) (h : nmOf l (i : Int) = nmOf l (j : Int)) : i = j := by
  unfold nmOf at h
  rw [if_neg (by omega), if_neg (by omega), Int.toNat_natCast, Int.toNat_natCast] at h
  injection h with h1 h2
  apply Classical.byContradiction
  intro hne
  rcases Nat.lt_or_ge i j with h3 | h3
  · have := ord_lt h3 hj h1; omega
  · have := ord_lt (show j < i by omega) hi h1.symm; omega
theorem view_nodup (l : List OpM) : ((view l).map Prod.fst).Nodup := by
  unfold view readsTo
  rw [List.map_map, List.map_map]
  refine List.pairwise_map.2 ?_
  have : ((List.range l.length).filter fun i => (l[i]!).kind == 1).Nodup := List.nodup_range.sublist List.filter_sublist
  refine (List.Pairwise.imp_of_mem ?_ this)
  intro a b ha hb hab e
  have h1 := List.mem_range.1 (List.mem_filter.1 ha).1
  have h2 := List.mem_range.1 (List.mem_filter.1 hb).1
  exact hab (nmOf_inj h1 h2 e)
theorem viewTo_take (l : List OpM) (k : Nat) : viewTo l k = (view l).take k := by
  unfold viewTo view; rw [List.map_take]
theorem viewTo_fresh {l : List OpM} {k : Nat} (h : k < (readsTo l l.length).length) : ∀ p ∈ viewTo l k, nmOf l ((readsTo l l.length)[k]).frm ≠ p.1 := by
  intro p hp e
  have hn : ((viewTo l (k + 1)).map Prod.fst).Nodup := by
    rw [viewTo_take, List.map_take]
    exact (view_nodup l).sublist (List.take_sublist _ _)
  rw [viewTo_succ l h, List.map_append, List.nodup_append] at hn
  exact hn.2.2 p.1 (List.mem_map_of_mem hp) _ (by simp) e.symm
end SeeM

/-- A table of twenty names. -/
def ETab (f : Nat → EgM) : List Value := egVals ((List.range 20).map f)
theorem ETab_len (f : Nat → EgM) : (ETab f).length = 40 := by unfold ETab; rw [egVals_len]; simp
theorem egVals_set (l : List EgM) : ∀ (i : Nat) (x : EgM), i < l.length → ((egVals l).set (i * 2) (.int .i64 x.frm)).set (i * 2 + 1) (.int .i64 x.to_) = egVals (l.set i x) := by
  induction l with
  | nil => intro i x h; simp at h
  | cons a l ih =>
    intro i x h
    cases i with
    | zero => simp [egVals]
    | succ i =>
      have := ih i x (by simpa using h)
      simp only [egVals, List.flatMap_cons, List.set_cons_succ, List.cons_append, List.nil_append] at this ⊢
      rw [show (i + 1) * 2 = i * 2 + 1 + 1 by omega]
      simp only [List.set_cons_succ]
      rw [this]
theorem ETab_set (f : Nat → EgM) {i : Nat} (hi : i < 20) (x : EgM) : ((ETab f).set (i * 2) (.int .i64 x.frm)).set (i * 2 + 1) (.int .i64 x.to_) = ETab (upd f i x) := by
  unfold ETab
  rw [egVals_set _ i x (by simpa using hi)]
  congr 1
  apply List.ext_getElem
  · simp
  · intro j h1 h2
    rw [List.getElem_set]
    simp only [List.getElem_map, List.getElem_range]
    unfold upd
    by_cases e : i = j
    · rw [if_pos e, if_pos e.symm]
    · rw [if_neg e, if_neg (Ne.symm e)]
theorem ETab_get (f : Nat → EgM) {i : Nat} (hi : i < 20) : (ETab f)[i * 2]? = some (.int .i64 (f i).frm) ∧ (ETab f)[i * 2 + 1]? = some (.int .i64 (f i).to_) := by
  have h := egVals_at ((List.range 20).map f) i (by simpa using hi)
  unfold ETab
  simpa using h
theorem ETab_congr {f g : Nat → EgM} (h : ∀ i, i < 20 → f i = g i) : ETab f = ETab g := by
  unfold ETab
  congr 1
  exact List.map_congr_left fun i hi => h i (List.mem_range.1 hi)
theorem EgsAt.grown {w w' : World} {ao : Option Addr} {l : List EgM} {b : Nat} {m : List (EgM × EgM)} (h : EgsAt w ao l) (hm : StMap w b m) (hg : w.grownBy w' (some b)) : EgsAt w' ao l := by
  rcases h with h | ⟨g, off, h1, h2, h3⟩
  · exact Or.inl h
  · by_cases hl : l = []
    · exact Or.inl hl
    · have h0 : 0 < l.length := List.length_pos_iff.2 hl
      have hne : g ≠ b := by
        rintro rfl
        have := (h3 0 h0).1
        unfold World.cell? at this
        unfold StMap at hm
        rw [hm] at this
        cases this
      have hk := hg.block g h2 (by simpa using hne)
      refine Or.inr ⟨g, off, h1, Nat.lt_of_lt_of_le h2 hg.size, fun k hk2 => ?_⟩
      rw [World.cell?_of_block (a := ⟨g, off + k * 2, none⟩) hk, World.cell?_of_block (a := ⟨g, off + k * 2 + 1, none⟩) hk]
      exact h3 k hk2
theorem StMap.new' {w : World} {n : Nat} (h : n = w.heap.size) : StMap (w.alloc (.map #[] 0)) n [] := by
  subst h
  exact heap_alloc_new w _
/-- In the first loop. -/
structure SeeM.VW (w : World) (l : List OpM) (P M : Nat) (no : Option Addr) (nc : Nat) (ro : Option Addr) (rd : List EgM) (m : List (EgM × EgM)) (wx : World) : Prop where
  hP : w.heap.size < P
  hM : P < M
  res : Blk wx w.heap.size 94 (ETab fun _ => ⟨0, 0⟩)
  is : Blk wx P 146 [.slice no l.length nc]
  names : EgsAt wx no (SeeM.namesTo l l.length)
  reads : EgsAt wx ro rd
  map : StMap wx M m
  below : Below w.heap.size w wx
section
variable {w wx wy : World} {l : List OpM} {P M nc : Nat} {no ro : Option Addr} {rd : List EgM} {m : List (EgM × EgM)}
theorem SeeM.VW.after (h : SeeM.VW w l P M no nc ro rd m wx) (hb : Below wx.heap.size wx wy) : SeeM.VW w l P M no nc ro rd m wy :=
  ⟨h.hP, h.hM, h.res.after hb, h.is.after hb, h.names.below hb (Nat.le_refl _), h.reads.below hb (Nat.le_refl _), h.map.after hb, below_tr h.below hb⟩
theorem SeeM.VW.alloc (h : SeeM.VW w l P M no nc ro rd m wx) (o : Obj) : SeeM.VW w l P M no nc ro rd m (wx.alloc o) := h.after ((Below.refl _ _).alloc (Nat.le_refl _) o)
theorem SeeM.VW.put (h : SeeM.VW w l P M no nc ro rd m wx) {m' : List (EgM × EgM)} (hg : wx.grownBy wy (some M)) (hm : StMap wy M m') : SeeM.VW w l P M no nc ro rd m' wy :=
  ⟨h.hP, h.hM, h.res.grown hg (by have := h.hP; have := h.hM; simp; omega), h.is.grown hg (by have := h.hM; simp; omega), h.names.grown h.map hg, h.reads.grown h.map hg, hm, h.below.grown hg h.below.size (fun b hb => by simp at hb; have := h.hP; have := h.hM; omega)⟩
/-- In the region that lays an entry. -/
def SeeM.VD (w : World) (l : List OpM) (P M : Nat) (no : Option Addr) (nc : Nat) (ro : Option Addr) (rd : List EgM) (m : List (EgM × EgM)) (p : EgM × EgM) (A : Nat) (x0 x1 : Int) (d : Bool) (wx : World) : Prop :=
  SeeM.VW w l P M no nc ro rd (if d = true then m ++ [p] else m) wx ∧ Blk wx A 51 [.int .i64 x0, .int .i64 x1]
end

theorem Blk.row {w : World} {b t : Nat} {C : List Value} (h : Blk w b t C) (cs : List Value) : Blk (w.setRow b cs.toArray) b t cs := setRow_heap w b _ _ _ _ h
theorem Blk.rowOther {w : World} {b t g : Nat} {C : List Value} (h : Blk w b t C) (hb : b ≠ g) (cs : Array Value) : Blk (w.setRow g cs) b t C := (setRow_other w g b cs hb).trans h
theorem StMap.rowOther {w : World} {b g : Nat} {m : List (EgM × EgM)} (h : StMap w b m) (hb : b ≠ g) (cs : Array Value) : StMap (w.setRow g cs) b m := (setRow_other w g b cs hb).trans h
theorem Below.setRow {N g : Nat} {a w : World} (h : Below N a w) (hg : N ≤ g) (cs : Array Value) : Below N a (w.setRow g cs) :=
  ⟨h.os, h.tape, h.output, by rw [setRow_size]; exact h.size, fun k hk => by rw [setRow_other w g k cs (by omega)]; exact h.block k hk⟩
/-- Indexing a table of ints that is a value. -/
theorem index_tab20 (f : Nat → Int) : ∀ (k : Nat), k < 20 → ∀ w, (Instr.index 52 (.agg (Tab 20 fun i => Value.int .i64 (f i)).toArray) (.int .i64 (k : Int))).run Try.prog w = .ok (.int .i64 (f k)) w
  | 0, _ => fun w => by kernel_rfl
  | 1, _ => fun w => by kernel_rfl
  | 2, _ => fun w => by kernel_rfl
  | 3, _ => fun w => by kernel_rfl
  | 4, _ => fun w => by kernel_rfl
  | 5, _ => fun w => by kernel_rfl
  | 6, _ => fun w => by kernel_rfl
  | 7, _ => fun w => by kernel_rfl
  | 8, _ => fun w => by kernel_rfl
  | 9, _ => fun w => by kernel_rfl
  | 10, _ => fun w => by kernel_rfl
  | 11, _ => fun w => by kernel_rfl
  | 12, _ => fun w => by kernel_rfl
  | 13, _ => fun w => by kernel_rfl
  | 14, _ => fun w => by kernel_rfl
  | 15, _ => fun w => by kernel_rfl
  | 16, _ => fun w => by kernel_rfl
  | 17, _ => fun w => by kernel_rfl
  | 18, _ => fun w => by kernel_rfl
  | 19, _ => fun w => by kernel_rfl
  | k + 20, h => absurd h (by omega)
/-- In the second loop: w5: before it; Q: the table's block. -/
structure SeeM.VQ (w5 : World) (Q : Nat) (f : Nat → EgM) (wx : World) : Prop where
  below : Below w5.heap.size w5 wx
  hQ : w5.heap.size ≤ Q
  tab : Blk wx Q 94 (ETab f)
section
variable {w5 wx wy : World} {Q : Nat} {f : Nat → EgM}
theorem SeeM.VQ.after (h : SeeM.VQ w5 Q f wx) (hb : Below wx.heap.size wx wy) : SeeM.VQ w5 Q f wy := ⟨below_tr h.below hb, h.hQ, h.tab.after hb⟩
theorem SeeM.VQ.alloc (h : SeeM.VQ w5 Q f wx) (o : Obj) : SeeM.VQ w5 Q f (wx.alloc o) := h.after ((Below.refl _ _).alloc (Nat.le_refl _) o)
theorem SeeM.VQ.set (h : SeeM.VQ w5 Q f wx) {i : Nat} (hi : i < 20) (x : EgM) : SeeM.VQ w5 Q (upd f i x) ((wx.setCell ⟨Q, i * 2, none⟩ (.int .i64 x.frm)).setCell ⟨Q, i * 2 + 1, none⟩ (.int .i64 x.to_)) := by
  refine ⟨(h.below.setCell h.hQ _).setCell h.hQ _, h.hQ, ?_⟩
  rw [← ETab_set f hi x]
  exact (h.tab.set _ _).set _ _
theorem SeeM.VQ.congr (h : SeeM.VQ w5 Q f wx) {g : Nat → EgM} (e : ∀ i, i < 20 → f i = g i) : SeeM.VQ w5 Q g wx := ⟨h.below, h.hQ, by rw [← ETab_congr e]; exact h.tab⟩
end
/-- In the last region. -/
def SeeM.VE (w : World) (M Q : Nat) (m : List (EgM × EgM)) (EL EZ : List Value) (d : Bool) (wx : World) : Prop :=
  Below w.heap.size w wx ∧ StMap wx M m ∧ Blk wx Q 94 EL ∧ Blk wx w.heap.size 94 (if d = true then EL else EZ)
theorem SeeM.VE.put {w wx : World} {M Q : Nat} {m : List (EgM × EgM)} {EL EZ : List Value} (h : SeeM.VE w M Q m EL EZ false wx) (hM : w.heap.size < M) (hQ : w.heap.size < Q) : SeeM.VE w M Q m EL EZ true (wx.setRow w.heap.size EL.toArray) :=
  ⟨Below.setRow h.1 (Nat.le_refl _) _, h.2.1.rowOther (by omega) _, h.2.2.1.rowOther (by omega) _, by rw [if_pos rfl]; exact h.2.2.2.row EL⟩
end
end Go.Proofs.Ytnhhjjhhicmfpaa
