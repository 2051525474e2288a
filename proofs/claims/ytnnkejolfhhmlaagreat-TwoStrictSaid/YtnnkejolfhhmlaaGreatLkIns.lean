/- slices.Insert at locks: one element put in. -/
import Derived.Test.YtnnkejolfhhmlaaGreatHeap
import Derived.Shelf.Spec.SlicesInsert
import Derived.Laws.CopyRow
import Derived.Lib.AppendZerosOnto
import Derived.Deep.AppendLies
import Derived.Test.YtnnkejolfhhmlaaGreatLkI
import Derived.Deep.RegionLaw
import Derived.Deep.DeepMust
namespace Go.Proofs.YtnnkejolfhhmlaaGreat
section
open Go.RowKit Go.Lib

/-- A list with a part written over. -/
def spl (L : List Value) (o : Nat) (cs : List Value) : List Value := L.take o ++ cs ++ L.drop (o + cs.length)
theorem spl_len {L : List Value} {o : Nat} {cs : List Value} (h : o + cs.length ≤ L.length) : (spl L o cs).length = L.length := by simp [spl]; omega
theorem Blk.row {w : World} {b t : Nat} {C : List Value} (h : Blk w b t C) (C' : List Value) : Blk (w.setRow b C'.toArray) b t C' := setRow_heap w b _ _ t (0, 0) h
theorem grownTr {w a b : World} {row : Option Nat} (h : w.grownBy a row) (k : a.grownBy b row) : w.grownBy b row :=
  ⟨k.os.trans h.os, k.tape.trans h.tape, k.output.trans h.output, Nat.le_trans h.size k.size, fun q h1 h2 => (k.block q (Nat.lt_of_lt_of_le h1 h.size) h2).trans (h.block q h1 h2)⟩
theorem grown_row (w : World) (b : Nat) (C : Array Value) : w.grownBy (w.setRow b C) (some b) :=
  ⟨rfl, rfl, rfl, by simp [World.setRow], fun k _ hk => setRow_other w b k C (fun e => hk (by rw [e]))⟩
theorem run_copy_wide {P : Program} (w : World) (dT sT ty elem : TypeId) (sz : Nat) (g o dLen dCap : Nat) (a : Addr) (sLen sCap : Nat) (cur cs : List Value) (t m : Nat)
    (hu : P.underlying dT = some (.slice elem)) (hs : (P.info? elem).map (·.size) = some sz) (hg : Blk w g t cur) (hm : Nat.min sLen dLen = m) (hl : cs.length = m * sz)
    (hsrc : ∀ j v, cs[j]? = some v → w.cell? (a.add j) = some v) (hfit : o + cs.length ≤ cur.length) (h1 : ∀ v ∈ cs, v.oneCell' = true) :
    (Builtin.copy_ #[dT, sT] ty #[.slice (some ⟨g, o, none⟩) dLen dCap, .slice (some a) sLen sCap]).run P w = .ok (goInt m) (w.setRow g (spl cur o cs).toArray) := by
  have hload := run_loadCells_list (P := P) w a cs hsrc
  rw [hl] at hload
  have hst := run_storeCells_at (P := P) g o t cs 0 cur.toArray w hg (by simpa using hfit) h1
  cases hq : P.info? elem with
  | none => simp [hq] at hs
  | some i =>
    have hi : i.size = sz := by simpa [hq] using hs
    subst hm
    simp [Builtin.copy_, run_underlying hu, Builtin.lenOf, Builtin.firstCells, sizeOf, typeInfo, hq, hi, hload, hst, spl]
/-- A block that begins with a row is an own row. -/
theorem Blk.owns {w : World} {b t B n cap sz : Nat} {C xs : List Value} (h : Blk w b t C) (hB : B ≤ b) (hn : n ≤ cap) (hcm : cap ≤ maxLen) (hC : C.length = cap * sz) (hx : C.take (n * sz) = xs) : w.ownsRow B t sz (.slice (some ⟨b, 0, none⟩) n cap) n xs := by
  have hle : n * sz ≤ cap * sz := Nat.mul_le_mul_right sz hn
  refine ⟨by rw [← hx, List.length_take, hC]; omega, Or.inr ⟨b, cap, C.toArray, rfl, hB, h, hn, hcm, by simpa using hC, by simpa using hx⟩⟩
/-- Of an own row: the block. -/
theorem owns_blk {w : World} {B t sz g n cap : Nat} {xs : List Value} (h : w.ownsRow B t sz (.slice (some ⟨g, 0, none⟩) n cap) n xs) : ∃ C : List Value, Blk w g t C ∧ B ≤ g ∧ n ≤ cap ∧ cap ≤ maxLen ∧ C.length = cap * sz ∧ C.take (n * sz) = xs := by
  rcases h.2 with ⟨h1, _⟩ | ⟨g', cap', cur, h1, h2, h3, h4, h5, h6, h7⟩
  · cases h1
  · injection h1 with h1 _ hc
    injection h1 with h1
    injection h1 with h1
    subst h1 hc
    exact ⟨cur.toList, h3, h2, h4, h5, by simpa using h6, h7⟩
theorem spl_get {L cs : List Value} {o : Nat} (h : o + cs.length ≤ L.length) (j : Nat) : (spl L o cs)[j]? = if j < o then L[j]? else if j < o + cs.length then cs[j - o]? else L[j]? := by
  unfold spl
  split
  · rename_i h1
    rw [List.append_assoc, List.getElem?_append_left (by rw [List.length_take]; omega), List.getElem?_take_of_lt h1]
  · rename_i h1
    split
    · rename_i h2
      rw [List.getElem?_append_left (by rw [List.length_append, List.length_take]; omega), List.getElem?_append_right (by rw [List.length_take]; omega)]
      congr 1
      rw [List.length_take]; omega
    · rename_i h2
      rw [List.getElem?_append_right (by rw [List.length_append, List.length_take]; omega), List.getElem?_drop]
      congr 1
      rw [List.length_append, List.length_take]; omega
/-- The two copies of Insert: what the first n + 1 elements are. -/
theorem ins_cells {C xs news : List Value} {n i sz : Nat} (hi : i ≤ n) (hC : C.take (n * sz) = xs) (hxl : xs.length = n * sz) (hlen : (n + 1) * sz ≤ C.length) (hnl : news.length = sz) :
    (spl (spl C ((i + 1) * sz) (xs.drop (i * sz))) (i * sz) news).take ((n + 1) * sz) = xs.take (i * sz) ++ news ++ xs.drop (i * sz) := by
  have h1 : i * sz ≤ n * sz := Nat.mul_le_mul_right sz hi
  have h2 : (i + 1) * sz = i * sz + sz := Nat.succ_mul i sz
  have h3 : (n + 1) * sz = n * sz + sz := Nat.succ_mul n sz
  have hdl : (xs.drop (i * sz)).length = n * sz - i * sz := by rw [List.length_drop, hxl]
  apply List.ext_getElem?
  intro j
  have hl1 : (spl C ((i + 1) * sz) (xs.drop (i * sz))).length = C.length := spl_len (by rw [hdl]; omega)
  have hg : ∀ k, k < n * sz → xs[k]? = C[k]? := fun k hk => by rw [← hC, List.getElem?_take_of_lt hk]
  by_cases hj : j < (n + 1) * sz
  · rw [List.getElem?_take_of_lt hj, spl_get (by rw [hl1]; omega), spl_get (by rw [hdl]; omega), hdl, hnl]
    by_cases ha : j < i * sz
    · rw [if_pos ha, if_pos (by omega), List.append_assoc, List.getElem?_append_left (by rw [List.length_take]; omega), List.getElem?_take_of_lt ha, hg j (by omega)]
    · rw [if_neg ha]
      by_cases hb : j < i * sz + sz
      · rw [if_pos hb, List.getElem?_append_left (by rw [List.length_append, List.length_take]; omega), List.getElem?_append_right (by rw [List.length_take]; omega)]
        congr 1
        rw [List.length_take]; omega
      · rw [if_neg hb, if_neg (by omega), if_pos (by omega), List.getElem?_append_right (by rw [List.length_append, List.length_take]; omega)]
        congr 1
        rw [List.length_append, List.length_take]; omega
  · rw [List.getElem?_eq_none (by rw [List.length_take]; omega), List.getElem?_eq_none (by simp only [List.length_append, List.length_take, List.length_drop]; omega)]
/-- append does not ask for the second slice's own type. -/
theorem run_append_two {P : Program} (t t' ty ty' : TypeId) (e e' : TypeId) (ht : P.underlying t = some (.slice e)) (ht' : P.underlying t' = some (.slice e')) (w : World) (x y : Value) : (Builtin.append_ #[t, t'] ty #[x, y]).run P w = (Builtin.append_ #[t, t] ty' #[x, y]).run P w := by
  cases x <;> simp [Builtin.append_, run_underlying ht, run_underlying ht']
end
section
open Go.RowKit Go.Lib

set_option maxRecDepth 20000 in
set_option maxHeartbeats 8000000 in
theorem insert_end_li (B n i : Nat) (v : Value) (xs news : List Value) (vb : Nat) (w : World) (ho : w.ownsRow B 134 3 v n xs) (hi : i = n) (hv : Blk w vb 134 news) (hnl : news.length = 3) (h1v : ∀ u ∈ news, u.oneCell' = true) (hB : B ≤ w.heap.size) (hn : n ≤ 1000) :
    Calls Tryz.prog 73 #[v, .int .i64 (i : Int), .slice (some ⟨vb, 0, none⟩) 1 1] w fun e w' => ∃ g' cap', e = .returned (.slice (some ⟨g', 0, none⟩) (n + 1) cap') ∧ w'.ownsRow B 134 3 (.slice (some ⟨g', 0, none⟩) (n + 1) cap') (n + 1) (xs.take (i * 3) ++ news ++ xs.drop (i * 3)) ∧ w.grownBy w' v.ownBlock ∧ (v.ownBlock = some g' ∨ g' = w.heap.size) := by
  subst hi
  obtain ⟨X, HX⟩ : ∃ X, Box ((fun e w' => ∃ g' cap', e = Ending.returned (.slice (some ⟨g', 0, none⟩) (i + 1) cap') ∧ w'.ownsRow B 134 3 (.slice (some ⟨g', 0, none⟩) (i + 1) cap') (i + 1) (xs.take (i * 3) ++ news ++ xs.drop (i * 3)) ∧ w.grownBy w' v.ownBlock ∧ (v.ownBlock = some g' ∨ g' = w.heap.size)) = X) := ⟨_, ⟨rfl⟩⟩
  rw [HX.out]
  obtain ⟨i0, hi0, hz0, hz1, hz2⟩ := info_parts Tryz.infoLi
  have hxl := ho.1
  have hz3 : ((i : Int) == (i : Int)) = true := by simp
  obtain ⟨gg, gcap, w7, hr, hown, hgr, hat, _⟩ := run_append_lies (P := Tryz.prog) w 64 64 B 134 i0 _ 3 56 Tryz.underlying64 hi0 hz0 hz1 hz2 rfl (by decide) v i xs ho ⟨vb, 0, none⟩ 1 1 news (by rw [hnl]) (World.news_of_block (cs := news.toArray) (t := 134) (fr := (0, 0)) hv) h1v (by omega) (by unfold maxLen; omega) (by omega) hB _ rfl
  have hr2 : ∀ ty, (Builtin.append_ #[64, 63] ty #[v, .slice (some ⟨vb, 0, none⟩) 1 1]).run Tryz.prog w = .ok (.slice (some ⟨gg, 0, none⟩) (i + 1) gcap) w7 := fun ty => (run_append_two 64 63 ty 64 _ _ Tryz.underlying64 Tryz.underlying63 w v _).trans hr
  have hfin : Box (w7.ownsRow B 134 3 (.slice (some ⟨gg, 0, none⟩) (i + 1) gcap) (i + 1) (xs.take (i * 3) ++ news ++ xs.drop (i * 3)) ∧ w.grownBy w7 v.ownBlock ∧ (v.ownBlock = some gg ∨ gg = w.heap.size)) := ⟨by
    rw [List.take_of_length_le (by omega), List.drop_of_length_le (by omega), List.append_nil]
    exact ⟨hown, hgr, hat⟩⟩
  rcases ho.2 with ⟨rfl, rfl⟩ | ⟨g, cap, cur, rfl, _, _, hle, _⟩
  · clear hown hgr hat ho hr
    go_enter Tryz.func73, Tryz.ntmps73
    go_wp2_with (at_builtin; refine Lib.wpList_append_run _ rfl _ _ _ _ rfl _ _ rfl rfl _ _ (hr2 _) ?_)
    rw [← HX.out]
    exact ⟨_, _, rfl, hfin.out⟩
  · clear hown hgr hat ho hr
    go_enter Tryz.func73, Tryz.ntmps73
    go_wp2_with (at_builtin; refine Lib.wpList_append_run _ rfl _ _ _ _ rfl _ _ rfl rfl _ _ (hr2 _) ?_)
    all_goals (rw [← HX.out]; exact ⟨_, _, rfl, hfin.out⟩)

set_option maxRecDepth 20000 in
set_option maxHeartbeats 8000000 in
theorem insert_room_li (B n i g cap : Nat) (xs news : List Value) (vb : Nat) (w : World) (ho : w.ownsRow B 134 3 (.slice (some ⟨g, 0, none⟩) n cap) n xs) (hi : i < n) (hroom : n + 1 ≤ cap) (hv : Blk w vb 134 news) (hne : vb ≠ g) (hnl : news.length = 3) (h1v : ∀ u ∈ news, u.oneCell' = true) (h1x : ∀ u ∈ xs, u.oneCell' = true) (hn : n ≤ 1000) :
    Calls Tryz.prog 73 #[.slice (some ⟨g, 0, none⟩) n cap, .int .i64 (i : Int), .slice (some ⟨vb, 0, none⟩) 1 1] w fun e w' => e = .returned (.slice (some ⟨g, 0, none⟩) (n + 1) cap) ∧ w'.ownsRow B 134 3 (.slice (some ⟨g, 0, none⟩) (n + 1) cap) (n + 1) (xs.take (i * 3) ++ news ++ xs.drop (i * 3)) ∧ w.grownBy w' (some g) := by
  obtain ⟨X, HX⟩ : ∃ X, Box ((fun e w' => e = Ending.returned (.slice (some ⟨g, 0, none⟩) (n + 1) cap) ∧ w'.ownsRow B 134 3 (.slice (some ⟨g, 0, none⟩) (n + 1) cap) (n + 1) (xs.take (i * 3) ++ news ++ xs.drop (i * 3)) ∧ w.grownBy w' (some g)) = X) := ⟨_, ⟨rfl⟩⟩
  rw [HX.out]
  obtain ⟨i0, hi0, hz0, hz1, hz2⟩ := info_parts Tryz.infoLi
  have hxl := ho.1
  obtain ⟨C, hC, hBg, hnc, hcm, hCl, hCx⟩ := owns_blk ho
  have hsz : (Tryz.prog.info? 134).map (·.size) = some 3 := by rw [hi0]; simp [hz1]
  have hcS : (n + 1) * 3 ≤ C.length := by rw [hCl]; exact Nat.mul_le_mul_right 3 hroom
  have hiS : i * 3 ≤ n * 3 := Nat.mul_le_mul_right 3 (by omega)
  have h2 : (i + 1) * 3 = i * 3 + 3 := by omega
  have h3 : (n + 1) * 3 = n * 3 + 3 := by omega
  have hdl : (xs.drop (i * 3)).length = (n - i) * 3 := by rw [List.length_drop, hxl]; omega
  have hov : ∀ lb cb, (callFunc 102 #[.slice (some ⟨vb, 0, none⟩) 1 1, .slice (some ⟨g, (i + 1) * 3, none⟩) lb cb]).run Tryz.prog w = .ok (.value (.bool false)) w := fun lb cb => by
    rw [run_callFunc_extern Tryz.func102 (by kernel_rfl) (by kernel_rfl) (by kernel_rfl) (e := Extern.SlicesOverlaps.overlaps #[63, 63] #[4]) (by kernel_rfl),
      Lib.run_overlaps_apart w 63 4 134 Tryz.underlying63 3 (fun w => by simp [sizeOf, typeInfo, hi0, hz1]) ⟨vb, 0, none⟩ ⟨g, (i + 1) * 3, none⟩ 1 1 lb cb hne 134 134 news.length C.length (by unfold Blk at hv; simp [World.shape?, hv]) (by unfold Blk at hC; simp [World.shape?, hC]) (by omega) (Blk.frozen hv 0) (Blk.frozen hv _)]
    rfl
  have hcp1 : ∀ ty dc sc, (Builtin.copy_ #[64, 64] ty #[.slice (some ⟨g, (i + 1) * 3, none⟩) (n - i) dc, .slice (some ⟨g, i * 3, none⟩) (n + 1 - i) sc]).run Tryz.prog w.drew = .ok (goInt ((n - i : Nat) : Int)) (w.drew.setRow g (spl C ((i + 1) * 3) (xs.drop (i * 3))).toArray) := fun ty dc sc =>
    run_copy_wide w.drew _ _ ty 134 3 g ((i + 1) * 3) (n - i) dc ⟨g, i * 3, none⟩ (n + 1 - i) sc C (xs.drop (i * 3)) 134 (n - i) Tryz.underlying64 hsz hC (by simp only [Nat.min_def]; split <;> omega) hdl
      (fun j u hj => by
        rw [Addr.add_lit]
        rw [List.getElem?_drop] at hj
        have hlt := (List.getElem?_eq_some_iff.1 hj).1
        refine hC.cell ?_
        rw [← hCx, List.getElem?_take_of_lt (by omega)] at hj
        exact hj)
      (by rw [hdl]; omega) (fun u hu => h1x u (List.mem_of_mem_drop hu))
  obtain ⟨W1, hW1⟩ : ∃ W1, W1 = w.drew.setRow g (spl C ((i + 1) * 3) (xs.drop (i * 3))).toArray := ⟨_, rfl⟩
  have hCl1 : (spl C ((i + 1) * 3) (xs.drop (i * 3))).length = C.length := spl_len (by rw [hdl]; omega)
  have hB1 : Blk W1 g 134 (spl C ((i + 1) * 3) (xs.drop (i * 3))) := by rw [hW1]; exact Blk.row (w := w.drew) hC _
  have hv1 : Blk W1 vb 134 news := by
    rw [hW1]
    exact (setRow_other w.drew g vb _ hne).trans hv
  have hcp2 : ∀ ty dc, (Builtin.copy_ #[64, 63] ty #[.slice (some ⟨g, i * 3, none⟩) (n + 1 - i) dc, .slice (some ⟨vb, 0, none⟩) 1 1]).run Tryz.prog W1 = .ok (goInt 1) (W1.setRow g (spl (spl C ((i + 1) * 3) (xs.drop (i * 3))) (i * 3) news).toArray) := fun ty dc =>
    run_copy_wide W1 _ _ ty 134 3 g (i * 3) (n + 1 - i) dc ⟨vb, 0, none⟩ 1 1 _ news 134 1 Tryz.underlying64 hsz hB1 (by simp only [Nat.min_def]; split <;> omega) (by rw [hnl])
      (fun j u hj => by rw [Addr.add_lit, Nat.zero_add]; exact hv1.cell hj) (by rw [hCl1, hnl]; omega) h1v
  have hfin : Box ((W1.setRow g (spl (spl C ((i + 1) * 3) (xs.drop (i * 3))) (i * 3) news).toArray).ownsRow B 134 3 (.slice (some ⟨g, 0, none⟩) (n + 1) cap) (n + 1) (xs.take (i * 3) ++ news ++ xs.drop (i * 3)) ∧ w.grownBy (W1.setRow g (spl (spl C ((i + 1) * 3) (xs.drop (i * 3))) (i * 3) news).toArray) (some g)) := ⟨by
    refine ⟨(hB1.row _).owns hBg hroom hcm (by rw [spl_len (by rw [hCl1, hnl]; omega), hCl1, hCl]) (ins_cells (by omega) hCx hxl hcS hnl), ?_⟩
    have e1 : w.grownBy w.drew (some g) := ⟨rfl, rfl, rfl, Nat.le_refl _, fun _ _ _ => rfl⟩
    have e2 := grown_row w.drew g (spl C ((i + 1) * 3) (xs.drop (i * 3))).toArray
    rw [← hW1] at e2
    exact grownTr (grownTr e1 e2) (grown_row W1 g _)⟩
  rw [← hW1] at hcp1
  have d0 : ((i : Int) == (n : Int)) = false := by simp; omega
  have hz4 : ¬ ((i : Int) = (n : Int)) := by omega
  have d1 : decide (cap < n + 1) = false := by simp; omega
  have hw1 : IntKind.i64.wrap ((i : Int) + 1) = (i : Int) + 1 := IntWalk.i64_in _ (by omega)
  have hb1 : (0 : Int) ≤ (i : Int) + 1 := by omega
  have hin : i ≤ n := by omega
  have hin1 : (i : Int) ≤ (n : Int) + 1 := by omega
  have hb2 : ¬ (cap = i + 1) := by omega
  have hb4 : ¬ (cap = i) := by omega
  have hcm2 : cap ≤ 9223372036854775807 := by unfold maxLen at hcm; omega
  clear ho hC hCx hB1 hv1 hv hCl hcS h1x h1v hxl hdl hCl1 hW1 h2 h3 hiS
  go_enter Tryz.func73, Tryz.ntmps73
  go_wp2_with (simp only [hov])
  go_region_law (refine step_copy_runI rfl _ _ 64 64 rfl _ _ (by simp [Act.eval, Act.put]) (by simp [Act.eval, Act.put]) (hcp1 _ _ _) ?_)
  all_goals (go_wp2_with (at_builtin; refine wpList_copy_runI _ rfl _ _ 64 63 rfl _ _ rfl rfl (hcp2 _ _) ?_))
  all_goals
    rw [← HX.out]
    exact ⟨rfl, hfin.out⟩

set_option maxRecDepth 20000 in
set_option maxHeartbeats 8000000 in
theorem insert_grow_li (B n i g cap : Nat) (xs news : List Value) (vb : Nat) (w : World) (ho : w.ownsRow B 134 3 (.slice (some ⟨g, 0, none⟩) n cap) n xs) (hi : i < n) (hroom : ¬ n + 1 ≤ cap) (hv : Blk w vb 134 news) (hnl : news.length = 3) (h1v : ∀ u ∈ news, u.oneCell' = true) (h1x : ∀ u ∈ xs, u.oneCell' = true) (hB : B ≤ w.heap.size) (hn : n ≤ 1000) :
    Calls Tryz.prog 73 #[.slice (some ⟨g, 0, none⟩) n cap, .int .i64 (i : Int), .slice (some ⟨vb, 0, none⟩) 1 1] w fun e w' => ∃ cap', e = .returned (.slice (some ⟨w.heap.size, 0, none⟩) (n + 1) cap') ∧ w'.ownsRow B 134 3 (.slice (some ⟨w.heap.size, 0, none⟩) (n + 1) cap') (n + 1) (xs.take (i * 3) ++ news ++ xs.drop (i * 3)) ∧ w.grownBy w' (some g) := by
  obtain ⟨X, HX⟩ : ∃ X, Box ((fun e w' => ∃ cap', e = Ending.returned (.slice (some ⟨w.heap.size, 0, none⟩) (n + 1) cap') ∧ w'.ownsRow B 134 3 (.slice (some ⟨w.heap.size, 0, none⟩) (n + 1) cap') (n + 1) (xs.take (i * 3) ++ news ++ xs.drop (i * 3)) ∧ w.grownBy w' (some g)) = X) := ⟨_, ⟨rfl⟩⟩
  rw [HX.out]
  obtain ⟨i0, hi0, hz0, hz1, hz2⟩ := info_parts Tryz.infoLi
  obtain ⟨k0, hk0, ky0, ky1, ky2⟩ := info_parts Tryz.infoLi
  have hxl := ho.1
  obtain ⟨C, hC, hBg, hnc, hcm, hCl, hCx⟩ := owns_blk ho
  have hsz : (Tryz.prog.info? 134).map (·.size) = some 3 := by rw [hi0]; simp [hz1]
  have hiS : i * 3 ≤ n * 3 := Nat.mul_le_mul_right 3 (by omega)
  have h2 : (i + 1) * 3 = i * 3 + 3 := by omega
  have h3 : (n + 1) * 3 = n * 3 + 3 := by omega
  have hdl : (xs.drop (i * 3)).length = (n - i) * 3 := by rw [List.length_drop, hxl]; omega
  have hCat : ∀ j u, xs[j]? = some u → w.cell? ⟨g, j, none⟩ = some u := fun j u hj => by
    have hlt := (List.getElem?_eq_some_iff.1 hj).1
    refine hC.cell ?_
    rw [← hCx, List.getElem?_take_of_lt (by omega)] at hj
    exact hj
  have hold : (Builtin.firstCells i0.size i (.slice (some ⟨g, 0, none⟩) i cap)).run Tryz.prog w.drew = .ok (xs.take (i * 3)).toArray w.drew := by
    rw [hz1]
    exact run_firstCells_some w.drew 3 i ⟨g, 0, none⟩ i cap (xs.take (i * 3)) (by rw [List.length_take]; omega) (fun j u hj => by
      rw [Addr.add_lit, Nat.zero_add]
      rw [List.getElem?_take] at hj
      split at hj
      · exact hCat j u hj
      · cases hj)
  have hcn : cap = n := by omega
  obtain ⟨G, hG⟩ : ∃ G, G = grownCap w (n + 1) cap 134 := ⟨_, rfl⟩
  obtain ⟨Z, hZ⟩ : ∃ Z : List Value, Z = (Builtin.zeroCells (Value.agg #[.int .i64 0, .slice none 0 0, .slice none 0 0]).cells (n + 1 - i) ++ Builtin.zeroCells (Value.agg #[.int .i64 0, .slice none 0 0, .slice none 0 0]).cells (G - (n + 1))).toList := ⟨_, rfl⟩
  have hGn : n + 1 ≤ G := by rw [hG]; exact grownCap_ge w _ _ _
  have hGm : G ≤ maxLen := by rw [hG]; exact grownCap_le_maxLen w (n + 1) cap 134 (by unfold maxLen; omega)
  have hZl : Z.length = (G - i) * 3 := by
    rw [hZ]
    simp [Builtin.zeroCells, Value.cells]
    omega
  have hrz : ∀ ty, (Builtin.append_ #[64, 3] ty #[.slice (some ⟨g, 0, none⟩) i cap, .int .i64 ((n : Int) + 1 - (i : Int))]).run Tryz.prog w = .ok (.slice (some ⟨w.heap.size, 0, none⟩) (n + 1) G) (w.drew.alloc (.cells (xs.take (i * 3) ++ Z).toArray 134)) := fun ty => by
    have h := Lib.run_append_grow_zeros w 64 3 ty 134 i0 _ .i64 .i64 Tryz.underlying64 Tryz.underlying3 hi0 hz0 (some ⟨g, 0, none⟩) i cap (xs.take (i * 3)) hold (n + 1 - i) (by omega) (by rw [hz1]; omega) (by omega) (by omega) (by rw [hz2]; omega) (by
      rw [hz2, show i + (n + 1 - i) = n + 1 by omega]
      exact growslice_fits (by omega) (by omega))
    rw [show i + (n + 1 - i) = n + 1 by omega, ← hG] at h
    have hZa : (xs.take (i * 3)).toArray ++ Builtin.zeroCells (Value.agg #[.int .i64 0, .slice none 0 0, .slice none 0 0]).cells (n + 1 - i) ++ Builtin.zeroCells (Value.agg #[.int .i64 0, .slice none 0 0, .slice none 0 0]).cells (G - (n + 1)) = (xs.take (i * 3) ++ Z).toArray := by
      rw [hZ]
      apply Array.ext'
      simp
    rw [show (n : Int) + 1 - (i : Int) = ((n + 1 - i : Nat) : Int) by omega, h, hZa]
  have hGlen : (xs.take (i * 3) ++ Z).length = G * 3 := by rw [List.length_append, hZl, List.length_take]; omega
  obtain ⟨R, hR⟩ : ∃ R, R = xs.take (i * 3) ++ Z := ⟨_, rfl⟩
  rw [← hR] at hrz hGlen
  have hgs := hC.lt
  have hvs := hv.lt
  have hcpA : ∀ W, Blk W w.heap.size 134 R → Blk W vb 134 news → ∀ ty dc, (Builtin.copy_ #[64, 63] ty #[.slice (some ⟨w.heap.size, i * 3, none⟩) (n + 1 - i) dc, .slice (some ⟨vb, 0, none⟩) 1 1]).run Tryz.prog W = .ok (goInt 1) (W.setRow w.heap.size (spl R (i * 3) news).toArray) := fun W hW hWv ty dc =>
    run_copy_wide W _ _ ty 134 3 w.heap.size (i * 3) (n + 1 - i) dc ⟨vb, 0, none⟩ 1 1 R news 134 1 Tryz.underlying64 hsz hW (by simp only [Nat.min_def]; split <;> omega) (by rw [hnl])
      (fun j u hj => by rw [Addr.add_lit, Nat.zero_add]; exact hWv.cell hj) (by rw [hGlen, hnl]; omega) h1v
  have hcpB : ∀ W, Blk W w.heap.size 134 (spl R (i * 3) news) → Blk W g 134 C → ∀ ty dc sc, (Builtin.copy_ #[64, 64] ty #[.slice (some ⟨w.heap.size, (i + 1) * 3, none⟩) (n - i) dc, .slice (some ⟨g, i * 3, none⟩) (n - i) sc]).run Tryz.prog W = .ok (goInt ((n - i : Nat) : Int)) (W.setRow w.heap.size (spl (spl R (i * 3) news) ((i + 1) * 3) (xs.drop (i * 3))).toArray) := fun W hW hWg ty dc sc =>
    run_copy_wide W _ _ ty 134 3 w.heap.size ((i + 1) * 3) (n - i) dc ⟨g, i * 3, none⟩ (n - i) sc _ (xs.drop (i * 3)) 134 (n - i) Tryz.underlying64 hsz hW (by simp) hdl
      (fun j u hj => by
        rw [Addr.add_lit]
        rw [List.getElem?_drop] at hj
        have hlt := (List.getElem?_eq_some_iff.1 hj).1
        refine hWg.cell ?_
        rw [← hCx, List.getElem?_take_of_lt (by omega)] at hj
        exact hj)
      (by rw [spl_len (by rw [hGlen, hnl]; omega), hGlen, hdl]; omega) (fun u hu => h1x u (List.mem_of_mem_drop hu))
  have hend : Box (∀ W, Blk W w.heap.size 134 (spl (spl R (i * 3) news) ((i + 1) * 3) (xs.drop (i * 3))) → W.ownsRow B 134 3 (.slice (some ⟨w.heap.size, 0, none⟩) (n + 1) G) (n + 1) (xs.take (i * 3) ++ news ++ xs.drop (i * 3))) := ⟨fun W hW => hW.owns hB hGn hGm (by rw [spl_len (by rw [spl_len (by rw [hGlen, hnl]; omega), hGlen, hdl]; omega), spl_len (by rw [hGlen, hnl]; omega), hGlen]) (by
    have hRx : R.take (i * 3) = xs.take (i * 3) := by rw [hR, List.take_append_of_le_length (by rw [List.length_take]; omega), List.take_take, Nat.min_self]
    have hl1 : (spl R (i * 3) news).length = G * 3 := by rw [spl_len (by rw [hGlen, hnl]; omega), hGlen]
    have hRg : ∀ j, j < i * 3 → R[j]? = xs[j]? := fun j hj => by
      have := congrArg (fun l : List Value => l[j]?) hRx
      simpa [List.getElem?_take_of_lt hj] using this
    apply List.ext_getElem?
    intro j
    by_cases hj : j < (n + 1) * 3
    · rw [List.getElem?_take_of_lt hj, spl_get (by rw [hl1, hdl]; omega), spl_get (by rw [hGlen, hnl]; omega), hdl, hnl]
      by_cases ha : j < i * 3
      · rw [if_pos (by omega), if_pos ha, List.append_assoc, List.getElem?_append_left (by rw [List.length_take]; omega), List.getElem?_take_of_lt ha, hRg j ha]
      · by_cases hb : j < i * 3 + 3
        · rw [if_pos (by omega), if_neg ha, if_pos hb, List.getElem?_append_left (by rw [List.length_append, List.length_take]; omega), List.getElem?_append_right (by rw [List.length_take]; omega)]
          congr 1
          rw [List.length_take]; omega
        · rw [if_neg (by omega), if_pos (by omega), List.getElem?_append_right (by rw [List.length_append, List.length_take]; omega)]
          congr 1
          rw [List.length_append, List.length_take]; omega
    · rw [List.getElem?_eq_none (by rw [List.length_take]; omega), List.getElem?_eq_none (by simp only [List.length_append, List.length_take, List.length_drop]; omega)])⟩
  have d0 : ((i : Int) == (n : Int)) = false := by simp; omega
  have hz4 : ¬ ((i : Int) = (n : Int)) := by omega
  have d1 : decide (cap < n + 1) = true := by simp; omega
  have hw1 : IntKind.i64.wrap ((i : Int) + 1) = (i : Int) + 1 := IntWalk.i64_in _ (by omega)
  have hb1 : (0 : Int) ≤ (i : Int) + 1 := by omega
  have hin : i ≤ n := by omega
  have hin1 : (i : Int) ≤ (n : Int) + 1 := by omega
  have hG63 : G ≤ 9223372036854775807 := by unfold maxLen at hGm; omega
  have hGi : ¬ (G = i) := by omega
  have hGi1 : ¬ (G = i + 1) := by omega
  have hb4 : ¬ (cap = i) := by omega
  have HC := box hC; have HV := box hv
  clear ho hC hv hCx hCl h1x h1v hxl hdl hZ hZl hold hR hGlen h2 h3 hiS hCat hG hcn
  have hA : ∀ ty dc, (Builtin.copy_ #[64, 63] ty #[.slice (some ⟨w.heap.size, i * 3, none⟩) (n + 1 - i) dc, .slice (some ⟨vb, 0, none⟩) 1 1]).run Tryz.prog ((w.alloc (.cells R.toArray 134)).drew) = .ok (goInt 1) (((w.alloc (.cells R.toArray 134)).drew).setRow w.heap.size (spl R (i * 3) news).toArray) := fun ty dc => hcpA _ (Blk.new w R 134).drew (HV.out.alloc _).drew ty dc
  obtain ⟨W2, hW2⟩ : ∃ W2, W2 = ((w.alloc (.cells R.toArray 134)).drew).setRow w.heap.size (spl R (i * 3) news).toArray := ⟨_, rfl⟩
  have hB2 : Blk W2 w.heap.size 134 (spl R (i * 3) news) := by rw [hW2]; exact Blk.row (Blk.new w R 134).drew _
  have hg2 : Blk W2 g 134 C := by rw [hW2]; exact (setRow_other _ w.heap.size g _ (by omega)).trans (HC.out.alloc _).drew
  have hBc : ∀ ty dc sc, (Builtin.copy_ #[64, 64] ty #[.slice (some ⟨w.heap.size, (i + 1) * 3, none⟩) (n - i) dc, .slice (some ⟨g, i * 3, none⟩) (n - i) sc]).run Tryz.prog W2.drew = .ok (goInt ((n - i : Nat) : Int)) (W2.drew.setRow w.heap.size (spl (spl R (i * 3) news) ((i + 1) * 3) (xs.drop (i * 3))).toArray) := fun ty dc sc => hcpB _ hB2.drew hg2.drew ty dc sc
  have hfin : Box ((W2.drew.setRow w.heap.size (spl (spl R (i * 3) news) ((i + 1) * 3) (xs.drop (i * 3))).toArray).ownsRow B 134 3 (.slice (some ⟨w.heap.size, 0, none⟩) (n + 1) G) (n + 1) (xs.take (i * 3) ++ news ++ xs.drop (i * 3)) ∧ w.grownBy (W2.drew.setRow w.heap.size (spl (spl R (i * 3) news) ((i + 1) * 3) (xs.drop (i * 3))).toArray) (some g)) := ⟨by
    refine ⟨hend.out _ (Blk.row hB2.drew _), ?_⟩
    have hs : w.heap.size + 1 ≤ W2.heap.size := by
      rw [hW2]
      refine Nat.le_trans ?_ (grown_row _ _ _).size
      show w.heap.size + 1 ≤ (w.alloc _).heap.size
      simp
    refine ⟨by rw [hW2]; rfl, by rw [hW2]; rfl, by rw [hW2]; rfl, ?_, fun k hk hkg => ?_⟩
    · exact Nat.le_trans (show w.heap.size ≤ W2.drew.heap.size by show w.heap.size ≤ W2.heap.size; omega) (grown_row W2.drew _ _).size
    · rw [setRow_other _ _ k _ (by omega)]
      show W2.heap[k]? = _
      rw [hW2, setRow_other _ _ k _ (by omega)]
      exact Below.heap_alloc _ _ _ hk⟩
  rw [← hW2] at hA
  clear hcpA hcpB hend HC HV hB2 hg2 hW2
  go_enter Tryz.func73, Tryz.ntmps73
  go_wp2_with (first
    | (at_builtin; refine Lib.wpList_append_run _ rfl _ _ _ _ rfl _ _ rfl rfl _ _ (hrz _) ?_)
    | (at_builtin; refine wpList_copy_runI _ rfl _ _ 64 63 rfl _ _ rfl rfl (hA _ _) ?_))
  go_region_law (refine step_copy_runI rfl _ _ 64 64 rfl _ _ (by simp [Act.eval, Act.put]) (by simp [Act.eval, Act.put]) (hBc _ _ _) ?_)
  all_goals (go_wp2_with fail)
  all_goals
    rw [← HX.out]
    exact ⟨_, rfl, hfin.out⟩
/-- What Insert answers: a row of the call's own with one more. -/
def InsPost_li (B n i : Nat) (v : Value) (xs news : List Value) (w : World) (e : Ending) (w' : World) : Prop :=
  ∃ g' cap', e = .returned (.slice (some ⟨g', 0, none⟩) (n + 1) cap') ∧ w'.ownsRow B 134 3 (.slice (some ⟨g', 0, none⟩) (n + 1) cap') (n + 1) (xs.take (i * 3) ++ news ++ xs.drop (i * 3)) ∧ w.grownBy w' v.ownBlock ∧ (v.ownBlock = some g' ∨ g' = w.heap.size)
theorem insert_any_li (B n i : Nat) (v : Value) (xs news : List Value) (vb : Nat) (w : World) (ho : w.ownsRow B 134 3 v n xs) (hi : i ≤ n) (hv : Blk w vb 134 news) (hne : v.ownBlock ≠ some vb) (hnl : news.length = 3) (h1v : ∀ u ∈ news, u.oneCell' = true) (h1x : ∀ u ∈ xs, u.oneCell' = true) (hB : B ≤ w.heap.size) (hn : n ≤ 1000) :
    Calls Tryz.prog 73 #[v, .int .i64 (i : Int), .slice (some ⟨vb, 0, none⟩) 1 1] w (InsPost_li B n i v xs news w) := by
  by_cases h : i = n
  · exact insert_end_li B n i v xs news vb w ho h hv hnl h1v hB hn
  · have hlt : i < n := by omega
    obtain ⟨g, cap, rfl, _⟩ := World.ownsRow.form ho (by omega)
    by_cases hr : n + 1 ≤ cap
    · refine (insert_room_li B n i g cap xs news vb w ho hlt hr hv (fun e => hne (by rw [e]; rfl)) hnl h1v h1x hn).mono ?_
      rintro e w' ⟨h1, h2, h3⟩
      exact ⟨g, cap, h1, h2, h3, Or.inl rfl⟩
    · refine (insert_grow_li B n i g cap xs news vb w ho hlt hr hv hnl h1v h1x hB hn).mono ?_
      rintro e w' ⟨cap', h1, h2, h3⟩
      exact ⟨_, cap', h1, h2, h3, Or.inr rfl⟩
end
section
open Go.RowKit Go.Lib

set_option maxRecDepth 20000 in
set_option maxHeartbeats 8000000 in
theorem insert_end_lk (B n i : Nat) (v : Value) (xs news : List Value) (vb : Nat) (w : World) (ho : w.ownsRow B 137 2 v n xs) (hi : i = n) (hv : Blk w vb 137 news) (hnl : news.length = 2) (h1v : ∀ u ∈ news, u.oneCell' = true) (hB : B ≤ w.heap.size) (hn : n ≤ 1000) :
    Calls Tryz.prog 78 #[v, .int .i64 (i : Int), .slice (some ⟨vb, 0, none⟩) 1 1] w fun e w' => ∃ g' cap', e = .returned (.slice (some ⟨g', 0, none⟩) (n + 1) cap') ∧ w'.ownsRow B 137 2 (.slice (some ⟨g', 0, none⟩) (n + 1) cap') (n + 1) (xs.take (i * 2) ++ news ++ xs.drop (i * 2)) ∧ w.grownBy w' v.ownBlock ∧ (v.ownBlock = some g' ∨ g' = w.heap.size) := by
  subst hi
  obtain ⟨X, HX⟩ : ∃ X, Box ((fun e w' => ∃ g' cap', e = Ending.returned (.slice (some ⟨g', 0, none⟩) (i + 1) cap') ∧ w'.ownsRow B 137 2 (.slice (some ⟨g', 0, none⟩) (i + 1) cap') (i + 1) (xs.take (i * 2) ++ news ++ xs.drop (i * 2)) ∧ w.grownBy w' v.ownBlock ∧ (v.ownBlock = some g' ∨ g' = w.heap.size)) = X) := ⟨_, ⟨rfl⟩⟩
  rw [HX.out]
  obtain ⟨i0, hi0, hz0, hz1, hz2⟩ := info_parts Tryz.infoLk
  have hxl := ho.1
  have hz3 : ((i : Int) == (i : Int)) = true := by simp
  obtain ⟨gg, gcap, w7, hr, hown, hgr, hat, _⟩ := run_append_lies (P := Tryz.prog) w 132 132 B 137 i0 _ 2 16 Tryz.underlying132 hi0 hz0 hz1 hz2 rfl (by decide) v i xs ho ⟨vb, 0, none⟩ 1 1 news (by rw [hnl]) (World.news_of_block (cs := news.toArray) (t := 137) (fr := (0, 0)) hv) h1v (by omega) (by unfold maxLen; omega) (by omega) hB _ rfl
  have hr2 : ∀ ty, (Builtin.append_ #[132, 132] ty #[v, .slice (some ⟨vb, 0, none⟩) 1 1]).run Tryz.prog w = .ok (.slice (some ⟨gg, 0, none⟩) (i + 1) gcap) w7 := fun ty => (run_append_two 132 132 ty 132 _ _ Tryz.underlying132 Tryz.underlying132 w v _).trans hr
  have hfin : Box (w7.ownsRow B 137 2 (.slice (some ⟨gg, 0, none⟩) (i + 1) gcap) (i + 1) (xs.take (i * 2) ++ news ++ xs.drop (i * 2)) ∧ w.grownBy w7 v.ownBlock ∧ (v.ownBlock = some gg ∨ gg = w.heap.size)) := ⟨by
    rw [List.take_of_length_le (by omega), List.drop_of_length_le (by omega), List.append_nil]
    exact ⟨hown, hgr, hat⟩⟩
  rcases ho.2 with ⟨rfl, rfl⟩ | ⟨g, cap, cur, rfl, _, _, hle, _⟩
  · clear hown hgr hat ho hr
    go_enter Tryz.func78, Tryz.ntmps78
    go_wp2_with (at_builtin; refine Lib.wpList_append_run _ rfl _ _ _ _ rfl _ _ rfl rfl _ _ (hr2 _) ?_)
    rw [← HX.out]
    exact ⟨_, _, rfl, hfin.out⟩
  · clear hown hgr hat ho hr
    go_enter Tryz.func78, Tryz.ntmps78
    go_wp2_with (at_builtin; refine Lib.wpList_append_run _ rfl _ _ _ _ rfl _ _ rfl rfl _ _ (hr2 _) ?_)
    all_goals (rw [← HX.out]; exact ⟨_, _, rfl, hfin.out⟩)

set_option maxRecDepth 20000 in
set_option maxHeartbeats 8000000 in
theorem insert_room_lk (B n i g cap : Nat) (xs news : List Value) (vb : Nat) (w : World) (ho : w.ownsRow B 137 2 (.slice (some ⟨g, 0, none⟩) n cap) n xs) (hi : i < n) (hroom : n + 1 ≤ cap) (hv : Blk w vb 137 news) (hne : vb ≠ g) (hnl : news.length = 2) (h1v : ∀ u ∈ news, u.oneCell' = true) (h1x : ∀ u ∈ xs, u.oneCell' = true) (hn : n ≤ 1000) :
    Calls Tryz.prog 78 #[.slice (some ⟨g, 0, none⟩) n cap, .int .i64 (i : Int), .slice (some ⟨vb, 0, none⟩) 1 1] w fun e w' => e = .returned (.slice (some ⟨g, 0, none⟩) (n + 1) cap) ∧ w'.ownsRow B 137 2 (.slice (some ⟨g, 0, none⟩) (n + 1) cap) (n + 1) (xs.take (i * 2) ++ news ++ xs.drop (i * 2)) ∧ w.grownBy w' (some g) := by
  obtain ⟨X, HX⟩ : ∃ X, Box ((fun e w' => e = Ending.returned (.slice (some ⟨g, 0, none⟩) (n + 1) cap) ∧ w'.ownsRow B 137 2 (.slice (some ⟨g, 0, none⟩) (n + 1) cap) (n + 1) (xs.take (i * 2) ++ news ++ xs.drop (i * 2)) ∧ w.grownBy w' (some g)) = X) := ⟨_, ⟨rfl⟩⟩
  rw [HX.out]
  obtain ⟨i0, hi0, hz0, hz1, hz2⟩ := info_parts Tryz.infoLk
  have hxl := ho.1
  obtain ⟨C, hC, hBg, hnc, hcm, hCl, hCx⟩ := owns_blk ho
  have hsz : (Tryz.prog.info? 137).map (·.size) = some 2 := by rw [hi0]; simp [hz1]
  have hcS : (n + 1) * 2 ≤ C.length := by rw [hCl]; exact Nat.mul_le_mul_right 2 hroom
  have hiS : i * 2 ≤ n * 2 := Nat.mul_le_mul_right 2 (by omega)
  have h2 : (i + 1) * 2 = i * 2 + 2 := by omega
  have h3 : (n + 1) * 2 = n * 2 + 2 := by omega
  have hdl : (xs.drop (i * 2)).length = (n - i) * 2 := by rw [List.length_drop, hxl]; omega
  have hov : ∀ lb cb, (callFunc 107 #[.slice (some ⟨vb, 0, none⟩) 1 1, .slice (some ⟨g, (i + 1) * 2, none⟩) lb cb]).run Tryz.prog w = .ok (.value (.bool false)) w := fun lb cb => by
    rw [run_callFunc_extern Tryz.func107 (by kernel_rfl) (by kernel_rfl) (by kernel_rfl) (e := Extern.SlicesOverlaps.overlaps #[132, 132] #[4]) (by kernel_rfl),
      Lib.run_overlaps_apart w 132 4 137 Tryz.underlying132 2 (fun w => by simp [sizeOf, typeInfo, hi0, hz1]) ⟨vb, 0, none⟩ ⟨g, (i + 1) * 2, none⟩ 1 1 lb cb hne 137 137 news.length C.length (by unfold Blk at hv; simp [World.shape?, hv]) (by unfold Blk at hC; simp [World.shape?, hC]) (by omega) (Blk.frozen hv 0) (Blk.frozen hv _)]
    rfl
  have hcp1 : ∀ ty dc sc, (Builtin.copy_ #[132, 132] ty #[.slice (some ⟨g, (i + 1) * 2, none⟩) (n - i) dc, .slice (some ⟨g, i * 2, none⟩) (n + 1 - i) sc]).run Tryz.prog w.drew = .ok (goInt ((n - i : Nat) : Int)) (w.drew.setRow g (spl C ((i + 1) * 2) (xs.drop (i * 2))).toArray) := fun ty dc sc =>
    run_copy_wide w.drew _ _ ty 137 2 g ((i + 1) * 2) (n - i) dc ⟨g, i * 2, none⟩ (n + 1 - i) sc C (xs.drop (i * 2)) 137 (n - i) Tryz.underlying132 hsz hC (by simp only [Nat.min_def]; split <;> omega) hdl
      (fun j u hj => by
        rw [Addr.add_lit]
        rw [List.getElem?_drop] at hj
        have hlt := (List.getElem?_eq_some_iff.1 hj).1
        refine hC.cell ?_
        rw [← hCx, List.getElem?_take_of_lt (by omega)] at hj
        exact hj)
      (by rw [hdl]; omega) (fun u hu => h1x u (List.mem_of_mem_drop hu))
  obtain ⟨W1, hW1⟩ : ∃ W1, W1 = w.drew.setRow g (spl C ((i + 1) * 2) (xs.drop (i * 2))).toArray := ⟨_, rfl⟩
  have hCl1 : (spl C ((i + 1) * 2) (xs.drop (i * 2))).length = C.length := spl_len (by rw [hdl]; omega)
  have hB1 : Blk W1 g 137 (spl C ((i + 1) * 2) (xs.drop (i * 2))) := by rw [hW1]; exact Blk.row (w := w.drew) hC _
  have hv1 : Blk W1 vb 137 news := by
    rw [hW1]
    exact (setRow_other w.drew g vb _ hne).trans hv
  have hcp2 : ∀ ty dc, (Builtin.copy_ #[132, 132] ty #[.slice (some ⟨g, i * 2, none⟩) (n + 1 - i) dc, .slice (some ⟨vb, 0, none⟩) 1 1]).run Tryz.prog W1 = .ok (goInt 1) (W1.setRow g (spl (spl C ((i + 1) * 2) (xs.drop (i * 2))) (i * 2) news).toArray) := fun ty dc =>
    run_copy_wide W1 _ _ ty 137 2 g (i * 2) (n + 1 - i) dc ⟨vb, 0, none⟩ 1 1 _ news 137 1 Tryz.underlying132 hsz hB1 (by simp only [Nat.min_def]; split <;> omega) (by rw [hnl])
      (fun j u hj => by rw [Addr.add_lit, Nat.zero_add]; exact hv1.cell hj) (by rw [hCl1, hnl]; omega) h1v
  have hfin : Box ((W1.setRow g (spl (spl C ((i + 1) * 2) (xs.drop (i * 2))) (i * 2) news).toArray).ownsRow B 137 2 (.slice (some ⟨g, 0, none⟩) (n + 1) cap) (n + 1) (xs.take (i * 2) ++ news ++ xs.drop (i * 2)) ∧ w.grownBy (W1.setRow g (spl (spl C ((i + 1) * 2) (xs.drop (i * 2))) (i * 2) news).toArray) (some g)) := ⟨by
    refine ⟨(hB1.row _).owns hBg hroom hcm (by rw [spl_len (by rw [hCl1, hnl]; omega), hCl1, hCl]) (ins_cells (by omega) hCx hxl hcS hnl), ?_⟩
    have e1 : w.grownBy w.drew (some g) := ⟨rfl, rfl, rfl, Nat.le_refl _, fun _ _ _ => rfl⟩
    have e2 := grown_row w.drew g (spl C ((i + 1) * 2) (xs.drop (i * 2))).toArray
    rw [← hW1] at e2
    exact grownTr (grownTr e1 e2) (grown_row W1 g _)⟩
  rw [← hW1] at hcp1
  have d0 : ((i : Int) == (n : Int)) = false := by simp; omega
  have hz4 : ¬ ((i : Int) = (n : Int)) := by omega
  have d1 : decide (cap < n + 1) = false := by simp; omega
  have hw1 : IntKind.i64.wrap ((i : Int) + 1) = (i : Int) + 1 := IntWalk.i64_in _ (by omega)
  have hb1 : (0 : Int) ≤ (i : Int) + 1 := by omega
  have hin : i ≤ n := by omega
  have hin1 : (i : Int) ≤ (n : Int) + 1 := by omega
  have hb2 : ¬ (cap = i + 1) := by omega
  have hb4 : ¬ (cap = i) := by omega
  have hcm2 : cap ≤ 9223372036854775807 := by unfold maxLen at hcm; omega
  clear ho hC hCx hB1 hv1 hv hCl hcS h1x h1v hxl hdl hCl1 hW1 h2 h3 hiS
  go_enter Tryz.func78, Tryz.ntmps78
  go_wp2_with (simp only [hov])
  go_region_law (refine step_copy_runI rfl _ _ 132 132 rfl _ _ (by simp [Act.eval, Act.put]) (by simp [Act.eval, Act.put]) (hcp1 _ _ _) ?_)
  all_goals (go_wp2_with (at_builtin; refine wpList_copy_runI _ rfl _ _ 132 132 rfl _ _ rfl rfl (hcp2 _ _) ?_))
  all_goals
    rw [← HX.out]
    exact ⟨rfl, hfin.out⟩

set_option maxRecDepth 20000 in
set_option maxHeartbeats 8000000 in
theorem insert_grow_lk (B n i g cap : Nat) (xs news : List Value) (vb : Nat) (w : World) (ho : w.ownsRow B 137 2 (.slice (some ⟨g, 0, none⟩) n cap) n xs) (hi : i < n) (hroom : ¬ n + 1 ≤ cap) (hv : Blk w vb 137 news) (hnl : news.length = 2) (h1v : ∀ u ∈ news, u.oneCell' = true) (h1x : ∀ u ∈ xs, u.oneCell' = true) (hB : B ≤ w.heap.size) (hn : n ≤ 1000) :
    Calls Tryz.prog 78 #[.slice (some ⟨g, 0, none⟩) n cap, .int .i64 (i : Int), .slice (some ⟨vb, 0, none⟩) 1 1] w fun e w' => ∃ cap', e = .returned (.slice (some ⟨w.heap.size, 0, none⟩) (n + 1) cap') ∧ w'.ownsRow B 137 2 (.slice (some ⟨w.heap.size, 0, none⟩) (n + 1) cap') (n + 1) (xs.take (i * 2) ++ news ++ xs.drop (i * 2)) ∧ w.grownBy w' (some g) := by
  obtain ⟨X, HX⟩ : ∃ X, Box ((fun e w' => ∃ cap', e = Ending.returned (.slice (some ⟨w.heap.size, 0, none⟩) (n + 1) cap') ∧ w'.ownsRow B 137 2 (.slice (some ⟨w.heap.size, 0, none⟩) (n + 1) cap') (n + 1) (xs.take (i * 2) ++ news ++ xs.drop (i * 2)) ∧ w.grownBy w' (some g)) = X) := ⟨_, ⟨rfl⟩⟩
  rw [HX.out]
  obtain ⟨i0, hi0, hz0, hz1, hz2⟩ := info_parts Tryz.infoLk
  obtain ⟨k0, hk0, ky0, ky1, ky2⟩ := info_parts Tryz.infoLk
  have hxl := ho.1
  obtain ⟨C, hC, hBg, hnc, hcm, hCl, hCx⟩ := owns_blk ho
  have hsz : (Tryz.prog.info? 137).map (·.size) = some 2 := by rw [hi0]; simp [hz1]
  have hiS : i * 2 ≤ n * 2 := Nat.mul_le_mul_right 2 (by omega)
  have h2 : (i + 1) * 2 = i * 2 + 2 := by omega
  have h3 : (n + 1) * 2 = n * 2 + 2 := by omega
  have hdl : (xs.drop (i * 2)).length = (n - i) * 2 := by rw [List.length_drop, hxl]; omega
  have hCat : ∀ j u, xs[j]? = some u → w.cell? ⟨g, j, none⟩ = some u := fun j u hj => by
    have hlt := (List.getElem?_eq_some_iff.1 hj).1
    refine hC.cell ?_
    rw [← hCx, List.getElem?_take_of_lt (by omega)] at hj
    exact hj
  have hold : (Builtin.firstCells i0.size i (.slice (some ⟨g, 0, none⟩) i cap)).run Tryz.prog w.drew = .ok (xs.take (i * 2)).toArray w.drew := by
    rw [hz1]
    exact run_firstCells_some w.drew 2 i ⟨g, 0, none⟩ i cap (xs.take (i * 2)) (by rw [List.length_take]; omega) (fun j u hj => by
      rw [Addr.add_lit, Nat.zero_add]
      rw [List.getElem?_take] at hj
      split at hj
      · exact hCat j u hj
      · cases hj)
  have hcn : cap = n := by omega
  obtain ⟨G, hG⟩ : ∃ G, G = grownCap w (n + 1) cap 137 := ⟨_, rfl⟩
  obtain ⟨Z, hZ⟩ : ∃ Z : List Value, Z = (Builtin.zeroCells (Value.agg #[.int .i64 0, .int .i64 0]).cells (n + 1 - i) ++ Builtin.zeroCells (Value.agg #[.int .i64 0, .int .i64 0]).cells (G - (n + 1))).toList := ⟨_, rfl⟩
  have hGn : n + 1 ≤ G := by rw [hG]; exact grownCap_ge w _ _ _
  have hGm : G ≤ maxLen := by rw [hG]; exact grownCap_le_maxLen w (n + 1) cap 137 (by unfold maxLen; omega)
  have hZl : Z.length = (G - i) * 2 := by
    rw [hZ]
    simp [Builtin.zeroCells, Value.cells]
    omega
  have hrz : ∀ ty, (Builtin.append_ #[132, 3] ty #[.slice (some ⟨g, 0, none⟩) i cap, .int .i64 ((n : Int) + 1 - (i : Int))]).run Tryz.prog w = .ok (.slice (some ⟨w.heap.size, 0, none⟩) (n + 1) G) (w.drew.alloc (.cells (xs.take (i * 2) ++ Z).toArray 137)) := fun ty => by
    have h := Lib.run_append_grow_zeros w 132 3 ty 137 i0 _ .i64 .i64 Tryz.underlying132 Tryz.underlying3 hi0 hz0 (some ⟨g, 0, none⟩) i cap (xs.take (i * 2)) hold (n + 1 - i) (by omega) (by rw [hz1]; omega) (by omega) (by omega) (by rw [hz2]; omega) (by
      rw [hz2, show i + (n + 1 - i) = n + 1 by omega]
      exact growslice_fits (by omega) (by omega))
    rw [show i + (n + 1 - i) = n + 1 by omega, ← hG] at h
    have hZa : (xs.take (i * 2)).toArray ++ Builtin.zeroCells (Value.agg #[.int .i64 0, .int .i64 0]).cells (n + 1 - i) ++ Builtin.zeroCells (Value.agg #[.int .i64 0, .int .i64 0]).cells (G - (n + 1)) = (xs.take (i * 2) ++ Z).toArray := by
      rw [hZ]
      apply Array.ext'
      simp
    rw [show (n : Int) + 1 - (i : Int) = ((n + 1 - i : Nat) : Int) by omega, h, hZa]
  have hGlen : (xs.take (i * 2) ++ Z).length = G * 2 := by rw [List.length_append, hZl, List.length_take]; omega
  obtain ⟨R, hR⟩ : ∃ R, R = xs.take (i * 2) ++ Z := ⟨_, rfl⟩
  rw [← hR] at hrz hGlen
  have hgs := hC.lt
  have hvs := hv.lt
  have hcpA : ∀ W, Blk W w.heap.size 137 R → Blk W vb 137 news → ∀ ty dc, (Builtin.copy_ #[132, 132] ty #[.slice (some ⟨w.heap.size, i * 2, none⟩) (n + 1 - i) dc, .slice (some ⟨vb, 0, none⟩) 1 1]).run Tryz.prog W = .ok (goInt 1) (W.setRow w.heap.size (spl R (i * 2) news).toArray) := fun W hW hWv ty dc =>
    run_copy_wide W _ _ ty 137 2 w.heap.size (i * 2) (n + 1 - i) dc ⟨vb, 0, none⟩ 1 1 R news 137 1 Tryz.underlying132 hsz hW (by simp only [Nat.min_def]; split <;> omega) (by rw [hnl])
      (fun j u hj => by rw [Addr.add_lit, Nat.zero_add]; exact hWv.cell hj) (by rw [hGlen, hnl]; omega) h1v
  have hcpB : ∀ W, Blk W w.heap.size 137 (spl R (i * 2) news) → Blk W g 137 C → ∀ ty dc sc, (Builtin.copy_ #[132, 132] ty #[.slice (some ⟨w.heap.size, (i + 1) * 2, none⟩) (n - i) dc, .slice (some ⟨g, i * 2, none⟩) (n - i) sc]).run Tryz.prog W = .ok (goInt ((n - i : Nat) : Int)) (W.setRow w.heap.size (spl (spl R (i * 2) news) ((i + 1) * 2) (xs.drop (i * 2))).toArray) := fun W hW hWg ty dc sc =>
    run_copy_wide W _ _ ty 137 2 w.heap.size ((i + 1) * 2) (n - i) dc ⟨g, i * 2, none⟩ (n - i) sc _ (xs.drop (i * 2)) 137 (n - i) Tryz.underlying132 hsz hW (by simp) hdl
      (fun j u hj => by
        rw [Addr.add_lit]
        rw [List.getElem?_drop] at hj
        have hlt := (List.getElem?_eq_some_iff.1 hj).1
        refine hWg.cell ?_
        rw [← hCx, List.getElem?_take_of_lt (by omega)] at hj
        exact hj)
      (by rw [spl_len (by rw [hGlen, hnl]; omega), hGlen, hdl]; omega) (fun u hu => h1x u (List.mem_of_mem_drop hu))
  have hend : Box (∀ W, Blk W w.heap.size 137 (spl (spl R (i * 2) news) ((i + 1) * 2) (xs.drop (i * 2))) → W.ownsRow B 137 2 (.slice (some ⟨w.heap.size, 0, none⟩) (n + 1) G) (n + 1) (xs.take (i * 2) ++ news ++ xs.drop (i * 2))) := ⟨fun W hW => hW.owns hB hGn hGm (by rw [spl_len (by rw [spl_len (by rw [hGlen, hnl]; omega), hGlen, hdl]; omega), spl_len (by rw [hGlen, hnl]; omega), hGlen]) (by
    have hRx : R.take (i * 2) = xs.take (i * 2) := by rw [hR, List.take_append_of_le_length (by rw [List.length_take]; omega), List.take_take, Nat.min_self]
    have hl1 : (spl R (i * 2) news).length = G * 2 := by rw [spl_len (by rw [hGlen, hnl]; omega), hGlen]
    have hRg : ∀ j, j < i * 2 → R[j]? = xs[j]? := fun j hj => by
      have := congrArg (fun l : List Value => l[j]?) hRx
      simpa [List.getElem?_take_of_lt hj] using this
    apply List.ext_getElem?
    intro j
    by_cases hj : j < (n + 1) * 2
    · rw [List.getElem?_take_of_lt hj, spl_get (by rw [hl1, hdl]; omega), spl_get (by rw [hGlen, hnl]; omega), hdl, hnl]
      by_cases ha : j < i * 2
      · rw [if_pos (by omega), if_pos ha, List.append_assoc, List.getElem?_append_left (by rw [List.length_take]; omega), List.getElem?_take_of_lt ha, hRg j ha]
      · by_cases hb : j < i * 2 + 2
        · rw [if_pos (by omega), if_neg ha, if_pos hb, List.getElem?_append_left (by rw [List.length_append, List.length_take]; omega), List.getElem?_append_right (by rw [List.length_take]; omega)]
          congr 1
          rw [List.length_take]; omega
        · rw [if_neg (by omega), if_pos (by omega), List.getElem?_append_right (by rw [List.length_append, List.length_take]; omega)]
          congr 1
          rw [List.length_append, List.length_take]; omega
    · rw [List.getElem?_eq_none (by rw [List.length_take]; omega), List.getElem?_eq_none (by simp only [List.length_append, List.length_take, List.length_drop]; omega)])⟩
  have d0 : ((i : Int) == (n : Int)) = false := by simp; omega
  have hz4 : ¬ ((i : Int) = (n : Int)) := by omega
  have d1 : decide (cap < n + 1) = true := by simp; omega
  have hw1 : IntKind.i64.wrap ((i : Int) + 1) = (i : Int) + 1 := IntWalk.i64_in _ (by omega)
  have hb1 : (0 : Int) ≤ (i : Int) + 1 := by omega
  have hin : i ≤ n := by omega
  have hin1 : (i : Int) ≤ (n : Int) + 1 := by omega
  have hG63 : G ≤ 9223372036854775807 := by unfold maxLen at hGm; omega
  have hGi : ¬ (G = i) := by omega
  have hGi1 : ¬ (G = i + 1) := by omega
  have hb4 : ¬ (cap = i) := by omega
  have HC := box hC; have HV := box hv
  clear ho hC hv hCx hCl h1x h1v hxl hdl hZ hZl hold hR hGlen h2 h3 hiS hCat hG hcn
  have hA : ∀ ty dc, (Builtin.copy_ #[132, 132] ty #[.slice (some ⟨w.heap.size, i * 2, none⟩) (n + 1 - i) dc, .slice (some ⟨vb, 0, none⟩) 1 1]).run Tryz.prog ((w.alloc (.cells R.toArray 137)).drew) = .ok (goInt 1) (((w.alloc (.cells R.toArray 137)).drew).setRow w.heap.size (spl R (i * 2) news).toArray) := fun ty dc => hcpA _ (Blk.new w R 137).drew (HV.out.alloc _).drew ty dc
  obtain ⟨W2, hW2⟩ : ∃ W2, W2 = ((w.alloc (.cells R.toArray 137)).drew).setRow w.heap.size (spl R (i * 2) news).toArray := ⟨_, rfl⟩
  have hB2 : Blk W2 w.heap.size 137 (spl R (i * 2) news) := by rw [hW2]; exact Blk.row (Blk.new w R 137).drew _
  have hg2 : Blk W2 g 137 C := by rw [hW2]; exact (setRow_other _ w.heap.size g _ (by omega)).trans (HC.out.alloc _).drew
  have hBc : ∀ ty dc sc, (Builtin.copy_ #[132, 132] ty #[.slice (some ⟨w.heap.size, (i + 1) * 2, none⟩) (n - i) dc, .slice (some ⟨g, i * 2, none⟩) (n - i) sc]).run Tryz.prog W2.drew = .ok (goInt ((n - i : Nat) : Int)) (W2.drew.setRow w.heap.size (spl (spl R (i * 2) news) ((i + 1) * 2) (xs.drop (i * 2))).toArray) := fun ty dc sc => hcpB _ hB2.drew hg2.drew ty dc sc
  have hfin : Box ((W2.drew.setRow w.heap.size (spl (spl R (i * 2) news) ((i + 1) * 2) (xs.drop (i * 2))).toArray).ownsRow B 137 2 (.slice (some ⟨w.heap.size, 0, none⟩) (n + 1) G) (n + 1) (xs.take (i * 2) ++ news ++ xs.drop (i * 2)) ∧ w.grownBy (W2.drew.setRow w.heap.size (spl (spl R (i * 2) news) ((i + 1) * 2) (xs.drop (i * 2))).toArray) (some g)) := ⟨by
    refine ⟨hend.out _ (Blk.row hB2.drew _), ?_⟩
    have hs : w.heap.size + 1 ≤ W2.heap.size := by
      rw [hW2]
      refine Nat.le_trans ?_ (grown_row _ _ _).size
      show w.heap.size + 1 ≤ (w.alloc _).heap.size
      simp
    refine ⟨by rw [hW2]; rfl, by rw [hW2]; rfl, by rw [hW2]; rfl, ?_, fun k hk hkg => ?_⟩
    · exact Nat.le_trans (show w.heap.size ≤ W2.drew.heap.size by show w.heap.size ≤ W2.heap.size; omega) (grown_row W2.drew _ _).size
    · rw [setRow_other _ _ k _ (by omega)]
      show W2.heap[k]? = _
      rw [hW2, setRow_other _ _ k _ (by omega)]
      exact Below.heap_alloc _ _ _ hk⟩
  rw [← hW2] at hA
  clear hcpA hcpB hend HC HV hB2 hg2 hW2
  go_enter Tryz.func78, Tryz.ntmps78
  go_wp2_with (first
    | (at_builtin; refine Lib.wpList_append_run _ rfl _ _ _ _ rfl _ _ rfl rfl _ _ (hrz _) ?_)
    | (at_builtin; refine wpList_copy_runI _ rfl _ _ 132 132 rfl _ _ rfl rfl (hA _ _) ?_))
  go_region_law (refine step_copy_runI rfl _ _ 132 132 rfl _ _ (by simp [Act.eval, Act.put]) (by simp [Act.eval, Act.put]) (hBc _ _ _) ?_)
  all_goals (go_wp2_with fail)
  all_goals
    rw [← HX.out]
    exact ⟨_, rfl, hfin.out⟩
/-- What Insert answers: a row of the call's own with one more. -/
def InsPost_lk (B n i : Nat) (v : Value) (xs news : List Value) (w : World) (e : Ending) (w' : World) : Prop :=
  ∃ g' cap', e = .returned (.slice (some ⟨g', 0, none⟩) (n + 1) cap') ∧ w'.ownsRow B 137 2 (.slice (some ⟨g', 0, none⟩) (n + 1) cap') (n + 1) (xs.take (i * 2) ++ news ++ xs.drop (i * 2)) ∧ w.grownBy w' v.ownBlock ∧ (v.ownBlock = some g' ∨ g' = w.heap.size)
theorem insert_any_lk (B n i : Nat) (v : Value) (xs news : List Value) (vb : Nat) (w : World) (ho : w.ownsRow B 137 2 v n xs) (hi : i ≤ n) (hv : Blk w vb 137 news) (hne : v.ownBlock ≠ some vb) (hnl : news.length = 2) (h1v : ∀ u ∈ news, u.oneCell' = true) (h1x : ∀ u ∈ xs, u.oneCell' = true) (hB : B ≤ w.heap.size) (hn : n ≤ 1000) :
    Calls Tryz.prog 78 #[v, .int .i64 (i : Int), .slice (some ⟨vb, 0, none⟩) 1 1] w (InsPost_lk B n i v xs news w) := by
  by_cases h : i = n
  · exact insert_end_lk B n i v xs news vb w ho h hv hnl h1v hB hn
  · have hlt : i < n := by omega
    obtain ⟨g, cap, rfl, _⟩ := World.ownsRow.form ho (by omega)
    by_cases hr : n + 1 ≤ cap
    · refine (insert_room_lk B n i g cap xs news vb w ho hlt hr hv (fun e => hne (by rw [e]; rfl)) hnl h1v h1x hn).mono ?_
      rintro e w' ⟨h1, h2, h3⟩
      exact ⟨g, cap, h1, h2, h3, Or.inl rfl⟩
    · refine (insert_grow_lk B n i g cap xs news vb w ho hlt hr hv hnl h1v h1x hB hn).mono ?_
      rintro e w' ⟨cap', h1, h2, h3⟩
      exact ⟨_, cap', h1, h2, h3, Or.inr rfl⟩
end
end Go.Proofs.YtnnkejolfhhmlaaGreat
