/- slices.Clone, Delete, IndexFunc, ContainsFunc over blocks (printed by mkbudx.py). -/
import Derived.Test.YtfmgncfikaefhaaBudE
import Derived.Test.YtfmgncfikaefhaaSlFind
import Derived.Deep.RegionLaw
import Derived.Lib.SliceRun
import Derived.Lib.LazyBuf
import Derived.BigQuiet
namespace Go.Proofs.Ytfmgncfikaefhaa
open Go.RowKit Go.Lib

/-- A list of which some places in a row are overwritten. -/
def setL (xs : List Value) : Nat → List Value → List Value
  | _, [] => xs
  | o, v :: vs => setL (xs.set o v) (o + 1) vs
theorem setL_len : ∀ (vs : List Value) (xs : List Value) (o : Nat), (setL xs o vs).length = xs.length
  | [], xs, o => rfl
  | v :: vs, xs, o => by rw [setL, setL_len vs]; simp
theorem setL_get : ∀ (vs : List Value) (xs : List Value) (o k : Nat), k < xs.length → (setL xs o vs)[k]? = if o ≤ k ∧ k < o + vs.length then vs[k - o]? else xs[k]?
  | [], xs, o, k, h => by
    rw [setL, if_neg (by simp only [List.length_nil]; omega)]
  | v :: vs, xs, o, k, h => by
    rw [setL, setL_get vs _ _ k (by simpa using h)]
    by_cases e : k = o
    · subst e
      rw [if_neg (by omega), if_pos (by simp)]
      simp [h]
    · by_cases h2 : o + 1 ≤ k ∧ k < o + 1 + vs.length
      · rw [if_pos h2, if_pos (by simp only [List.length_cons]; omega)]
        rw [show k - o = (k - (o + 1)) + 1 by omega, List.getElem?_cons_succ]
      · rw [if_neg h2, if_neg (by simp only [List.length_cons]; omega), List.getElem?_set_ne (by omega)]
theorem setL_own {base e size cap g n : Nat} : ∀ (vs : List Value) (o : Nat) (w : World) (xs : List Value), w.ownsRow base e size (.slice (some ⟨g, 0, none⟩) n cap) n xs →
    (w.setCells g o vs).ownsRow base e size (.slice (some ⟨g, 0, none⟩) n cap) n (setL xs o vs) ∧ w.grownBy (w.setCells g o vs) (some g)
  | [], o, w, xs, h => ⟨h, rfl, rfl, rfl, Nat.le_refl _, fun _ _ _ => rfl⟩
  | v :: vs, o, w, xs, h => by
    obtain ⟨h1, h2⟩ := h.stored o v
    obtain ⟨k1, k2⟩ := setL_own vs (o + 1) _ _ h1
    exact ⟨k1, k2.os.trans h2.os, k2.tape.trans h2.tape, k2.output.trans h2.output, Nat.le_trans h2.size k2.size, fun k hk hne => (k2.block k (Nat.lt_of_lt_of_le hk h2.size) hne).trans (h2.block k hk hne)⟩
/-- 'clear' of a slice of one element. -/
theorem run_clear_one {P : Program} (w : World) (t e ty : TypeId) (z : Value) (ht : P.underlying t = some (.slice e)) (hv : ∀ w, (zeroValue e).run P w = .ok z w) (h1 : ∀ v ∈ z.cells.toList, v.oneCell' = true) (b o c : Nat)
    (hc : ∀ j, j < z.cells.size → (w.cell? ⟨b, o + j, none⟩).isSome = true) (hf : ∀ j, j < z.cells.size → w.frozen? ⟨b, o + j, none⟩ = false) :
    (Builtin.clear_ #[t] ty #[.slice (some ⟨b, o, none⟩) 1 c]).run P w = .ok (.tuple #[]) (w.setCells b o z.cells.toList) := by
  have hzc : (Builtin.zeroCells z.cells 1).toList = z.cells.toList := by
    apply List.ext_getElem
    · simp [Builtin.zeroCells]
    · intro i h1 h2
      have h2' : i < z.cells.size := by simpa using h2
      simp [Builtin.zeroCells, Nat.mod_eq_of_lt h2', getElem!_pos z.cells i h2']
  have hst := run_storeCells_cells (P := P) b o z.cells.toList 0 w (by simpa using hc) (by simpa using hf) h1
  simp only [Nat.add_zero] at hst
  simp [Builtin.clear_, run_underlying ht, hv, hzc, hst]

theorem Try.zeroBlk (w : World) : (zeroValue 73).run Try.prog w = .ok (.agg #[.int .i64 0, .int .i64 0]) w := by kernel_rfl


theorem bkVals_drop (l : List BkM) : ∀ i, bkVals (l.drop i) = (bkVals l).drop (i * 2) := by
  induction l with
  | nil => intro i; simp [bkVals]
  | cons v r ih =>
    intro i
    cases i with
    | zero => rfl
    | succ i =>
      rw [List.drop_succ_cons, ih i, show (i + 1) * 2 = i * 2 + 1 + 1 by omega]
      simp only [bkVals, List.flatMap_cons, List.cons_append, List.nil_append, List.drop_succ_cons]
/-- The row behind a deletion. -/
theorem bkVals_erased (l : List BkM) (i m : Nat) (hl : l.length = m + 1) (hi : i ≤ m) (zs : List Value) :
    ∀ k (h : k < (l.eraseIdx i).length), (setL (setL (bkVals l) (i * 2) (bkVals (l.drop (i + 1)))) (m * 2) zs)[k * 2]? = some (.int .i64 (l.eraseIdx i)[k].at_) ∧ (setL (setL (bkVals l) (i * 2) (bkVals (l.drop (i + 1)))) (m * 2) zs)[k * 2 + 1]? = some (.int .i64 (l.eraseIdx i)[k].ord) := by
  have hv := bkVals_len l
  have hd : (bkVals (l.drop (i + 1))).length = (m - i) * 2 := by rw [bkVals_len, List.length_drop, hl]; omega
  intro k hk
  have hkm : k < m := by rw [List.length_eraseIdx] at hk; split at hk <;> omega
  have key : ∀ j, j < m * 2 → (setL (setL (bkVals l) (i * 2) (bkVals (l.drop (i + 1)))) (m * 2) zs)[j]? = if j < i * 2 then (bkVals l)[j]? else (bkVals l)[j + 2]? := by
    intro j hj
    rw [setL_get _ _ _ _ (by rw [setL_len]; omega), if_neg (by omega), setL_get _ _ _ _ (by omega), hd]
    by_cases e : j < i * 2
    · rw [if_neg (by omega), if_pos e]
    · rw [if_pos (by omega), if_neg e, bkVals_drop, List.getElem?_drop]
      congr 1; omega
  rw [key _ (by omega), key _ (by omega)]
  rw [List.getElem_eraseIdx]
  by_cases e : k < i
  · rw [if_pos (by omega), if_pos (by omega), dif_pos e]
    exact bkVals_at l k (by omega)
  · rw [if_neg (by omega), if_neg (by omega), dif_neg e]
    have h := bkVals_at l (k + 1) (by omega)
    rw [show k * 2 + 2 = (k + 1) * 2 by omega, show k * 2 + 1 + 2 = (k + 1) * 2 + 1 by omega]
    exact h

set_option maxRecDepth 20000 in
set_option maxHeartbeats 2000000 in
theorem delete_bks (l : List BkM) (i cap g base : Nat) (w : World) (h : w.ownsRow base 73 2 (.slice (some ⟨g, 0, none⟩) l.length cap) l.length (bkVals l)) (hi : i < l.length) (hcap : l.length ≤ cap) (hn : cap ≤ 9223372036854775807) :
    Calls Try.prog 57 #[.slice (some ⟨g, 0, none⟩) l.length cap, .int .i64 (i : Int), .int .i64 ((i : Int) + 1)] w fun e w' => e = .returned (.slice (some ⟨g, 0, none⟩) (l.eraseIdx i).length cap) ∧ BksAt w' (some ⟨g, 0, none⟩) (l.eraseIdx i) ∧ w.drew.grownBy w' (some g) := by
  have H := box h
  obtain ⟨m, hL⟩ : ∃ m, l.length = m + 1 := ⟨l.length - 1, by omega⟩
  have HEl : Box ((l.eraseIdx i).length = m) := ⟨by rw [List.length_eraseIdx, if_pos hi]; omega⟩
  rw [hL] at hi hcap
  have HEr := box (bkVals_erased l i m hL (by omega) [.int .i64 0, .int .i64 0])
  have Hcl := box (fun (W : World) ty hc hf => run_clear_one (P := Try.prog) W 67 73 ty (.agg #[.int .i64 0, .int .i64 0]) Try.underlying67 Try.zeroBlk (by intro v hv; simp [Value.cells] at hv; rcases hv with rfl | rfl <;> rfl) g (m * 2) (cap - m) hc hf)
  rw [hL]
  have HL := box hL
  clear h hL
  obtain ⟨i0, hi0, hz0, hz1, hz2⟩ := info_parts Try.infoBk
  have hic : (i : Int) ≤ (cap : Int) := by omega
  have hi2 : (i : Int) ≤ (m : Int) := by omega
  have hi5 : (0 : Int) ≤ (i : Int) + 1 := by omega
  have q0 : ((i : Int) == (i : Int) + 1) = false := by simp; omega
  have s0 : (bkVals (l.drop (i + 1))).length = (m - i) * 2 := by rw [bkVals_len, List.length_drop, HL.out]; omega
  have s1 := bkVals_one (l.drop (i + 1))
  obtain ⟨news, HN⟩ : ∃ news, Box (bkVals (l.drop (i + 1)) = news) := ⟨_, ⟨rfl⟩⟩
  rw [HN.out] at s0 s1
  have Hws : Box (∀ j, j < news.length → (w.drew.cell? ⟨g, 0 + i * 2 + j, none⟩).isSome = true ∧ w.drew.frozen? ⟨g, 0 + i * 2 + j, none⟩ = false) := ⟨fun j hj => by
    have hj2 : 0 + i * 2 + j < (m + 1) * 2 := by rw [s0] at hj; omega
    refine ⟨?_, H.out.frozenAt _⟩
    show (w.cell? _).isSome = true
    rw [H.out.cellAt _ (by rw [HL.out]; exact hj2), List.getElem?_eq_getElem (by rw [bkVals_len, HL.out]; exact hj2)]
    rfl⟩
  have Hsrc : Box (∀ j u, news[j]? = some u → w.drew.cell? ((⟨g, (i + 1) * 2, none⟩ : Addr).add j) = some u) := ⟨fun j u hu => by
    have hj : j < (m - i) * 2 := by rw [← s0]; exact (List.getElem?_eq_some_iff.1 hu).1
    show w.cell? _ = _
    rw [Addr.add_lit, H.out.cellAt _ (by rw [HL.out]; omega)]
    rw [← HN.out, bkVals_drop, List.getElem?_drop] at hu
    exact hu⟩
  have S0 := box s0; have S1 := box s1
  clear s0 s1
  have hmi : i + (m - i) = m := by omega
  have hm1 : m + 1 - m = 1 := by omega
  have hmc : (m : Int) ≤ (cap : Int) := by omega
  have hm0 : (m : Int) ≤ (m : Int) + 1 := by omega
  have hend : ∀ W1, W1 = w.drew.setCells g (0 + i * 2) news → Box (W1.ownsRow base 73 2 (.slice (some ⟨g, 0, none⟩) l.length cap) l.length (setL (bkVals l) (i * 2) (bkVals (l.drop (i + 1)))) ∧ w.drew.grownBy W1 (some g)) := fun W1 e => ⟨by
    rw [e, Nat.zero_add, ← HN.out]
    exact setL_own _ _ _ _ H.out.drew⟩
  by_cases hcc : cap = i + 1
  case neg =>
    go_enter Try.func57, Try.ntmps57
    go_wp2_with fail
    go_region_law (refine step_append_room rfl (.tmp 22) (.tmp 25) 67 rfl 73 i0 2 Try.underlying67 hi0 hz1 g 0 i cap (by simp [Act.eval, Act.put]) ⟨g, (i + 1) * 2, none⟩ (m - i) (cap - (i + 1)) news (by simp [Act.eval, Act.put]) S0.out Hsrc.out S1.out (by omega) Hws.out ?_; generalize hW1 : w.drew.setCells g (0 + i * 2) news = W1)
    obtain ⟨hO1, hG1⟩ := (hend W1 hW1.symm).out
    have HO1 := box hO1; have HG1 := box hG1
    have hsz : (setL (bkVals l) (i * 2) (bkVals (l.drop (i + 1)))).length = (m + 1) * 2 := by rw [setL_len, bkVals_len, HL.out]
    have hcl : ∀ ty, (Builtin.clear_ #[67] ty #[.slice (some ⟨g, m * 2, none⟩) 1 (cap - m)]).run Try.prog W1 = .ok (.tuple #[]) (W1.setCells g (m * 2) [.int .i64 0, .int .i64 0]) := fun ty => Hcl.out W1 ty
      (fun j hj => by
        have hj2 : m * 2 + j < (m + 1) * 2 := by have : j < 2 := hj; omega
        rw [HO1.out.cellAt _ (by rw [HL.out]; exact hj2), List.getElem?_eq_getElem (by rw [hsz]; exact hj2)]; rfl)
      (fun j _ => HO1.out.frozenAt _)
    have Hfin := box (setL_own [.int .i64 0, .int .i64 0] (m * 2) W1 _ HO1.out)
    clear hO1 hG1 hend hW1 hsz
    go_wp2_with fail
    go_ret
    refine ⟨by rw [HEl.out]; rfl, Or.inr ⟨g, 0, rfl, ?_, fun k hk => ?_⟩, ⟨Hfin.out.2.os.trans HG1.out.os, Hfin.out.2.tape.trans HG1.out.tape, Hfin.out.2.output.trans HG1.out.output, Nat.le_trans HG1.out.size Hfin.out.2.size, fun k hk hne => (Hfin.out.2.block k (Nat.lt_of_lt_of_le hk HG1.out.size) hne).trans (HG1.out.block k hk hne)⟩⟩
    · exact (Hfin.out.1.lt g rfl).2
    · have hkm : k < m := by have := HEl.out; omega
      rw [Nat.zero_add, Hfin.out.1.cellAt _ (by rw [HL.out]; omega), Hfin.out.1.cellAt _ (by rw [HL.out]; omega)]
      exact HEr.out k hk
  case pos =>
    have him : i = m := by omega
    subst him
    have hn0 : news = [] := List.eq_nil_of_length_eq_zero (by rw [S0.out]; omega)
    have Hsrc0 : Box (∀ j u, news[j]? = some u → w.drew.cell? ((⟨g, 0, none⟩ : Addr).add j) = some u) := ⟨fun j u hu => by rw [hn0] at hu; simp at hu⟩
    clear hn0 hmi
    subst hcc
    have hz : i - i = 0 := Nat.sub_self _
    have hz1' : i + 1 - (i + 1) = 0 := Nat.sub_self _
    have S0' : Box (news.length = 0 * 2) := ⟨by rw [S0.out, hz]⟩
    go_enter Try.func57, Try.ntmps57
    go_wp2_with fail
    go_region_law (refine step_append_room rfl (.tmp 22) (.tmp 25) 67 rfl 73 i0 2 Try.underlying67 hi0 hz1 g 0 i (i + 1) (by simp [Act.eval, Act.put]) ⟨g, 0, none⟩ 0 0 news (by simp [Act.eval, Act.put]) S0'.out Hsrc0.out S1.out (by omega) Hws.out ?_; generalize hW1 : w.drew.setCells g (0 + i * 2) news = W1)
    obtain ⟨hO1, hG1⟩ := (hend W1 hW1.symm).out
    have HO1 := box hO1; have HG1 := box hG1
    have hsz : (setL (bkVals l) (i * 2) (bkVals (l.drop (i + 1)))).length = (i + 1) * 2 := by rw [setL_len, bkVals_len, HL.out]
    have hcl : ∀ ty, (Builtin.clear_ #[67] ty #[.slice (some ⟨g, i * 2, none⟩) 1 (i + 1 - i)]).run Try.prog W1 = .ok (.tuple #[]) (W1.setCells g (i * 2) [.int .i64 0, .int .i64 0]) := fun ty => Hcl.out W1 ty
      (fun j hj => by
        have hj2 : i * 2 + j < (i + 1) * 2 := by have : j < 2 := hj; omega
        rw [HO1.out.cellAt _ (by rw [HL.out]; exact hj2), List.getElem?_eq_getElem (by rw [hsz]; exact hj2)]; rfl)
      (fun j _ => HO1.out.frozenAt _)
    rw [show i + 1 - i = 1 by omega] at hcl
    have Hfin := box (setL_own [.int .i64 0, .int .i64 0] (i * 2) W1 _ HO1.out)
    clear hO1 hG1 hend hW1 hsz
    go_wp2_with fail
    go_ret
    refine ⟨by rw [HEl.out]; rfl, Or.inr ⟨g, 0, rfl, ?_, fun k hk => ?_⟩, ⟨Hfin.out.2.os.trans HG1.out.os, Hfin.out.2.tape.trans HG1.out.tape, Hfin.out.2.output.trans HG1.out.output, Nat.le_trans HG1.out.size Hfin.out.2.size, fun k hk hne => (Hfin.out.2.block k (Nat.lt_of_lt_of_le hk HG1.out.size) hne).trans (HG1.out.block k hk hne)⟩⟩
    · exact (Hfin.out.1.lt g rfl).2
    · have hkm : k < i := by have := HEl.out; omega
      rw [Nat.zero_add, Hfin.out.1.cellAt _ (by rw [HL.out]; omega), Hfin.out.1.cellAt _ (by rw [HL.out]; omega)]
      exact HEr.out k hk

set_option maxRecDepth 20000 in
set_option maxHeartbeats 2000000 in
theorem clone_bks (l : List BkM) (ao : Option Addr) (cap : Nat) (w : World) (h : BksAt w ao l) (hnil : ao = none → cap = 0) (hn : l.length ≤ 1000000000) :
    Calls Try.prog 34 #[.slice ao l.length cap] w fun e w' => (∃ v, e = .returned v ∧ w'.ownsRow w.heap.size 73 2 v l.length (bkVals l)) ∧ Below w.heap.size w w' := by
  have H := box h
  clear h
  have q0 := fun (w : World) (a : Option Addr) (n c : Nat) => _root_.Go.run_eql_slice_nil (P := Try.prog) w 67 73 a n c Try.underlying67
  cases ao with
  | none =>
    have hl : l = [] := H.out.resolve_right (by rintro ⟨b, off, h, _⟩; cases h)
    have hc := hnil rfl
    subst hl
    subst hc
    go_enter Try.func34, Try.ntmps34
    go_wp2_with fail
    go_ret
    exact ⟨⟨_, rfl, World.ownsRow_nil _ _ _ _⟩, Below.refl _ _⟩
  | some ad =>
    obtain ⟨i0, hi0, hz0, hz1, hz2⟩ := info_parts Try.infoBk
    have Hcs : Box (∀ wx, Below w.heap.size w wx → ∀ j u, (bkVals l)[j]? = some u → wx.cell? (ad.add j) = some u) := ⟨fun wx hx j u hu => by
      rcases H.out with h | ⟨b, off, h1, h2, h3⟩
      · subst h; simp [bkVals] at hu
      · injection h1 with h1
        subst h1
        have hj : j < l.length * 2 := by have := (List.getElem?_eq_some_iff.1 hu).1; rw [bkVals_len] at this; exact this
        rw [Addr.add_lit]
        refine (hx.cell (p := ⟨b, off + j, none⟩) h2).trans ?_
        have hk : j / 2 < l.length := by omega
        obtain ⟨a0, a1⟩ := bkVals_at l (j / 2) hk
        obtain ⟨c0, c1⟩ := h3 (j / 2) hk
        rcases Nat.mod_two_eq_zero_or_one j with e | e
        · have ej : j / 2 * 2 = j := by omega
          rw [ej] at a0 c0
          rw [c0, ← a0, hu]
        · have ej : j / 2 * 2 + 1 = j := by omega
          rw [ej] at a1
          rw [show off + j / 2 * 2 + 1 = off + j by omega] at c1
          rw [c1, ← a1, hu]⟩
    clear hnil
    go_enter Try.func34, Try.ntmps34
    have hown := World.ownsRow_lit (base := w.heap.size) (e := 73) (size := 2) w #[] 0 (Nat.le_refl _) (Nat.zero_le _) rfl
    have HB := box ((Below.refl w.heap.size w).alloc (Nat.le_refl _) (.cells #[] 73))
    go_wp2_with (at_builtin; go_must (refine wpList_append_own _ rfl _ _ 67 rfl w.heap.size 73 i0 _ 2 16 Try.underlying67 hi0 hz0 hz1 hz2 rfl (by decide) _ _ _ rfl hown ad l.length cap (bkVals l) rfl (bkVals_len l) (Hcs.out _ HB.out) (bkVals_one l) (by unfold maxLen; omega) (by omega) (by simp) ?_))
    intro v' w9 hown3 hgrow _
    have HB9 := box (HB.out.grown hgrow (by simp) (fun j hj => by have := hown.lt j hj; omega))
    clear hgrow hown
    go_wp2_with fail
    go_ret
    exact ⟨⟨_, rfl, by simpa using hown3⟩, HB9.out⟩

/-- Function g, with lb behind, tells p of an operation, in world W; it may lay blocks. -/
def TellsBk (g : Nat) (lb : Array Value) (p : BkM → Bool) (W : World) (o : BkM) : Prop := Calls Try.prog g (#[.agg #[.int .i64 o.at_, .int .i64 o.ord]] ++ lb) W fun e w' => e = .returned (.bool (p o)) ∧ Below W.heap.size W w'
def BksM.find (p : BkM → Bool) (l : List BkM) : Int := if l.findIdx p < l.length then (l.findIdx p : Int) else -1

set_option maxRecDepth 20000 in
set_option maxHeartbeats 1000000 in
theorem indexFunc_bks (l : List BkM) (ao : Option Addr) (cap g : Nat) (lb : Array Value) (p : BkM → Bool) (w : World) (h : BksAt w ao l) (hn : l.length ≤ 9000000000000000000) (hp : ∀ W, Below w.heap.size w W → ∀ o ∈ l, TellsBk g lb p W o)
    (eg : ∀ args w, (callFunc g args).run Try.prog w = .ok (.enter g args) w) :
    Calls Try.prog 55 #[.slice ao l.length cap, .func (.func g) #[] lb] w fun e w' => e = .returned (.int .i64 (BksM.find p l)) ∧ Below w.heap.size w w' := by
  have H := box h; have Hp := box hp
  clear h hp
  go_enter Try.func55, Try.ntmps55
  go_wp2_with fail
  go_loopw [8] (fun t8 wr => ∃ k : Nat, k ≤ l.length ∧ t8 = .int .i64 (k : Int) ∧ Box (∀ j (h : j < l.length), j < k → p l[j] = false) ∧ Box (Below w.heap.size w wr)) (fun t8 _ => l.length - (intOf t8).toNat)
  case atStart => exact ⟨0, Nat.zero_le _, rfl, ⟨fun j _ h => by omega⟩, ⟨Below.refl _ _⟩⟩
  case round =>
    obtain ⟨k, hk, rfl, Hall, Hb⟩ := hrel
    by_cases hlt : k < l.length
    · obtain ⟨b, off, rfl, hb, hrow⟩ := ((H.out.below Hb.out (Nat.le_refl _)).resolve_left (by intro h; rw [h] at hlt; simp at hlt))
      obtain ⟨hc0, hc1⟩ := hrow k hlt
      have Hc := box (Hp.out _ Hb.out l[k] (List.getElem_mem hlt))
      have HF : Box (p l[k] = true → BksM.find p l = (k : Int)) := ⟨fun h => by
        have : l.findIdx p = k := by
          rw [List.findIdx_eq (by omega)]
          exact ⟨h, fun j hj => Hall.out j (by omega) hj⟩
        unfold BksM.find
        rw [this, if_pos hlt]⟩
      have HN : Box (p l[k] = false → ∀ j (h : j < l.length), j < k + 1 → p l[j] = false) := ⟨fun h j hj h2 => by
        by_cases e : j = k
        · subst e; exact h
        · exact Hall.out j hj (by omega)⟩
      generalize l[k] = o at *
      clear hrow
      go_wp2_with fail
      refine (Hc.out).mono ?_
      rintro e w' ⟨rfl, hb'⟩
      have HB' := box (below_tr Hb.out hb')
      clear hb'
      generalize p o = v at *
      cases v with
      | true =>
        go_wp2_with fail
        go_ret
        exact ⟨by rw [HF.out (by simp)]; rfl, HB'.out⟩
      | false =>
        go_wp2_with fail
        go_roundw
        case rel => exact ⟨k + 1, hlt, by go_num, ⟨HN.out (by simp)⟩, HB'⟩
        case measure => simp [intOf]; omega
    · have HF : Box (BksM.find p l = -1) := ⟨by
        unfold BksM.find
        rw [if_neg]
        intro h
        have h2 := List.findIdx_getElem (w := h)
        have := Hall.out _ h (by omega)
        rw [this] at h2; simp at h2⟩
      go_wp2_with fail
      go_ret
      exact ⟨by rw [HF.out]; rfl, Hb.out⟩
theorem BksM.find_ge (p : BkM → Bool) (l : List BkM) : decide (0 ≤ BksM.find p l) = l.any p := by
  unfold BksM.find
  by_cases h : l.findIdx p < l.length
  · have h2 := List.findIdx_getElem (w := h)
    rw [if_pos h, decide_eq_true (by omega)]
    exact (List.any_eq_true.2 ⟨_, List.getElem_mem h, h2⟩).symm
  · rw [if_neg h]
    have h1 : l.findIdx p = l.length := by have := List.findIdx_le_length (p := p) (xs := l); omega
    rw [List.findIdx_eq_length] at h1
    have : l.any p = false := by
      rw [List.any_eq_false]
      intro x hx
      rw [h1 x hx]; simp
    rw [this]; rfl
theorem containsFunc_bks (l : List BkM) (ao : Option Addr) (cap g : Nat) (lb : Array Value) (p : BkM → Bool) (w : World) (h : BksAt w ao l) (hn : l.length ≤ 9000000000000000000) (hp : ∀ W, Below w.heap.size w W → ∀ o ∈ l, TellsBk g lb p W o)
    (eg : ∀ args w, (callFunc g args).run Try.prog w = .ok (.enter g args) w) :
    Calls Try.prog 37 #[.slice ao l.length cap, .func (.func g) #[] lb] w fun e w' => e = .returned (.bool (l.any p)) ∧ Below w.heap.size w w' := by
  have HC := box (indexFunc_bks l ao cap g lb p w h hn hp eg)
  have HI := box (BksM.find_ge p l)
  clear h hp eg
  go_enter Try.func37, Try.ntmps37
  go_wp2_with fail
  refine HC.out.mono ?_
  rintro e w' ⟨rfl, hb⟩
  have HB := box hb
  clear hb
  generalize BksM.find p l = y at *
  go_wp2_with fail
  go_ret
  exact ⟨by rw [← HI.out]; rfl, HB.out⟩

end Go.Proofs.Ytfmgncfikaefhaa
