/- slices.Backward over records: what its loop hands out. -/
import Derived.Test.YtfmgncfikaefhaaRedoP
import Derived.RangeFuncNested
import Derived.RangeFuncLeaves
import Derived.RangeFuncBox
import Derived.Shelf.Abstract
import Derived.WalkKit
import Derived.OwnWalkIn
import Derived.TacticsInMore
import Derived.LoopNIn
import Derived.LoopIn
namespace Go.Proofs.Ytfmgncfikaefhaa
open Go.RowKit Go.Lib Go.Shelf

attribute [local go_sem] Oper.semAt_some

/-- A place and the record there, its numbers in their bounds. -/
abbrev RecA := { x : Int × RecM // 0 ≤ x.2.tx ∧ x.2.tx < 12 ∧ 0 ≤ x.2.item ∧ x.2.item < 20 }
def RecA.encs (x : RecA) : Array Value := #[.int .i64 x.1.1, .agg #[.int .i64 x.1.2.kind, .int .i64 x.1.2.tx, .int .i64 x.1.2.item, .int .i64 x.1.2.old, .int .i64 x.1.2.new]]
/-- What comes is the row from its end on. -/
def BackRow (W : World) (b off len : Nat) (zs : List RecA) : Prop :=
  zs.length = len ∧ ∀ j (h : j < zs.length), zs[j].1.1 = ((len - 1 - j : Nat) : Int) ∧ w_row W b (off + (len - 1 - j) * 5) zs[j].1.2
where w_row (W : World) (b o : Nat) (r : RecM) : Prop := W.cell? ⟨b, o, none⟩ = some (.int .i64 r.kind) ∧ W.cell? ⟨b, o + 1, none⟩ = some (.int .i64 r.tx) ∧ W.cell? ⟨b, o + 2, none⟩ = some (.int .i64 r.item) ∧ W.cell? ⟨b, o + 3, none⟩ = some (.int .i64 r.old) ∧ W.cell? ⟨b, o + 4, none⟩ = some (.int .i64 r.new)

/-- What a round keeps: all that lies below n₀, and the block that holds the slice. -/
def BackK (n₀ Bs : Nat) (A B : World) : Prop := Below n₀ A B ∧ B.heap[Bs]? = A.heap[Bs]?
theorem BackK.refl (n₀ Bs : Nat) (A : World) : BackK n₀ Bs A A := ⟨Below.refl _ _, rfl⟩
theorem BackK.trans {n₀ Bs : Nat} {A B C : World} (h : BackK n₀ Bs A B) (k : BackK n₀ Bs B C) : BackK n₀ Bs A C := ⟨h.1.trans k.1, k.2.trans h.2⟩
theorem BackK.putObj {n₀ Bs : Nat} {w : World} (hn : n₀ ≤ w.heap.size) (hB : Bs < w.heap.size) (W : World) (l : Nat) (o o' : Obj) (hl : w.heap.size ≤ l) (h : W.heap[l]? = some o) (h1 : o.isCells = false) (h2 : o.isWalk = false) : BackK n₀ Bs W (W.putObj l o') :=
  ⟨belowK_b hn W l o o' hl h h1 h2, World.putObj_heap_other (by omega)⟩
theorem BackK.cell {n₀ Bs : Nat} {A B : World} (h : BackK n₀ Bs A B) (i : Nat) : B.cell? ⟨Bs, i, none⟩ = A.cell? ⟨Bs, i, none⟩ := World.cell?_of_block h.2

set_option maxRecDepth 100000 in
set_option maxHeartbeats 4000000 in
theorem backward1_in (F : Fence) (n : Nat) (h7 : F.fn 59) (hro : F.round = none) (hn : 1 ≤ n) (l Bs n₀ b off len cap : Nat) (ao : Option Addr) (hao : 0 < len → ao = some ⟨b, off, none⟩) (zs : List RecA) (hreach : len ≤ 9000000000000000) (hb : 0 < len → b < n₀) (J Jx : List RecA → World → Prop)
    (hY : ∀ pre x W, J pre W → pre.length < len → YieldAt F (n - 1) Try.prog l (RecA.encs x) W fun e W' =>
      (e = .returned (.bool true) ∧ J (pre ++ [x]) W' ∧ BackK n₀ Bs W W') ∨ (e = .returned (.bool false) ∧ Jx (pre ++ [x]) W'))
    (W : World) (hBc : W.cell? ⟨Bs, 0, none⟩ = some (.slice ao len cap)) (hz : BackRow W b off len zs) (h0 : J [] W) :
    CallsIn F n Try.prog 59 #[.func (.yield l) #[] #[], .pointer (some ⟨Bs, 0, none⟩)] W fun e W' => (∃ v, e = .returned v) ∧
      ((∃ ys, ys = zs ∧ J ys W') ∨ (∃ pre, pre <+: zs ∧ Jx pre W')) := by
  obtain ⟨hzl, hzr⟩ := hz
  have w0 : IntKind.i64.wrap ((len : Int) - 1) = (len : Int) - 1 := IntWalk.i64_in _ (by omega)
  refine callsIn_of_wp Try.func59 rfl h7 ?_ hro
  simp only [Try.ntmps59, List.size_toArray, List.length_cons, List.length_nil, Nat.reduceAdd, Nat.reduceSub, Array.replicate_succ, Array.replicate_zero, List.push_toArray, List.append_toArray, List.nil_append, List.cons_append]
  gi_wp2
  gi_loopw [3] (fun i wr => ∃ k : Nat, k ≤ len ∧ i = .int .i64 ((len : Int) - 1 - (k : Int)) ∧ J (zs.take k) wr ∧ BackK n₀ Bs W wr)
    (fun i _ => (intOf i + 1).toNat)
  case atStart => exact ⟨0, Nat.zero_le _, by go_num, by simpa using h0, BackK.refl _ _ _⟩
  case round =>
    obtain ⟨k, hk, rfl, hJs, hnx⟩ := hrel
    have hBc' := (hnx.cell 0).trans hBc
    by_cases hlt : k < len
    · have hb := hb (by omega)
      obtain rfl := hao (by omega)
      have hkz : k < zs.length := by omega
      obtain ⟨hix, d0, d1, d2, d3, d4⟩ := hzr k hkz
      have HTk : Box (zs.take (k + 1) = zs.take k ++ [zs[k]]) := ⟨List.take_succ_eq_append_getElem hkz⟩
      obtain ⟨fn, tmps, assign, body, hy, hR⟩ := hY _ zs[k] wr hJs (by rw [List.length_take]; omega)
      obtain ⟨m, hm⟩ : ∃ m : Nat, (len : Int) - 1 - (k : Int) = (m : Int) := ⟨len - 1 - k, by omega⟩
      have hmm : len - 1 - k = m := by omega
      rw [hmm] at hix d0 d1 d2 d3 d4
      have c0 := (hnx.1.cell (p := ⟨b, off + m * 5, none⟩) hb).trans d0
      have c1 := (hnx.1.cell (p := ⟨b, off + m * 5 + 1, none⟩) hb).trans d1
      have c2 := (hnx.1.cell (p := ⟨b, off + m * 5 + 2, none⟩) hb).trans d2
      have c3 := (hnx.1.cell (p := ⟨b, off + m * 5 + 3, none⟩) hb).trans d3
      have c4 := (hnx.1.cell (p := ⟨b, off + m * 5 + 4, none⟩) hb).trans d4
      unfold RecA.encs at hy
      try dsimp only at hy
      rw [hix] at hy
      generalize zs[k] = z at *
      obtain ⟨⟨zi, ⟨zk, zt, zit, zo, zn⟩⟩, zp⟩ := z
      dsimp only at hy c0 c1 c2 c3 c4
      have g0 : (m : Int) < (len : Int) := by omega
      have g1 : (0 : Int) ≤ (m : Int) := by omega
      have w1 : IntKind.i64.wrap ((m : Int) - 1) = (m : Int) - 1 := IntWalk.i64_in _ (by omega)
      have HJs := box hJs; have Hnx := box hnx; have Hm := box hm
      have HhR := hR
      rw [hm]
      clear d0 d1 d2 d3 d4 hJs hnx hzr hix hmm
      clear hm
      gi_wp2
      refine hR.mono ?_
      rintro e W3 (⟨rfl, hJ3, hk3⟩ | ⟨rfl, hJx3⟩)
      · rw [← HTk.out] at hJ3
        have HJ3 := box hJ3
        have Hb3 := box (Hnx.out.trans hk3)
        clear hJ3 hk3 hy hR HhR c0 c1 c2 c3 c4
        gi_wp2
        go_roundw
        case rel =>
          refine ⟨k + 1, hlt, ?_, HJ3.out, Hb3.out⟩
          have := Hm.out
          congr 1; omega
        case measure => simp only [intOf]; omega
      · rw [← HTk.out] at hJx3
        have HJ3 := box hJx3
        clear hJx3 hy hR HhR c0 c1 c2 c3 c4
        gi_wp2
        refine bodyPost_ret (results_none rfl _ _ _) rfl ?_
        exact ⟨⟨_, rfl⟩, .inr ⟨_, List.take_prefix _ _, HJ3.out⟩⟩
    · obtain rfl : k = len := by omega
      have e0 : (k : Int) - 1 - (k : Int) = -1 := by omega
      rw [e0]
      have HT : Box (zs.take k = zs) := ⟨List.take_of_length_le (by omega)⟩
      rw [HT.out] at hJs
      have HJs := box hJs
      clear hJs
      gi_wp2
      go_end0
      exact ⟨⟨_, rfl⟩, .inl ⟨_, rfl, HJs.out⟩⟩

/-- The places and records of l, from its end on. -/
def backL (l : List RecM) : List (Int × RecM) := (List.range l.length).map fun j => (((l.length - 1 - j : Nat) : Int), l.getD (l.length - 1 - j) ⟨0, 0, 0, 0, 0⟩)
theorem backL_snd (l : List RecM) : (backL l).map Prod.snd = l.reverse := by
  apply List.ext_getElem
  · simp [backL]
  · intro i h1 h2
    have hi : i < l.length := by simpa [backL] using h1
    simp only [backL, List.getElem_map, List.getElem_range, List.getElem_reverse]
    rw [List.getD_eq_getElem?_getD, List.getElem?_eq_getElem (by omega)]
    rfl

theorem backward_stops (F : Fence) (n : Nat) (h7 : F.fn 59) (hro : F.round = none) (hn : 1 ≤ n) (Bs n₀ cap : Nat) (ao : Option Addr) (l : List RecM) (zs : List RecA) (hreach : l.length ≤ 9000000000000000)
    (w : World) (hBs : Bs < w.heap.size) (_ : n₀ ≤ w.heap.size) (hc : w.cell? ⟨Bs, 0, none⟩ = some (.slice ao l.length cap)) (hI : l = [] ∨ ∃ b off, ao = some ⟨b, off, none⟩ ∧ b < n₀ ∧ RecsAt w ao l) (hz : zs.map Subtype.val = backL l) :
    SeqStopsK F n Try.prog 59 #[.pointer (some ⟨Bs, 0, none⟩)] RecA.encs (BackK n₀ Bs) (fun ys => ys = zs) (fun pre => pre <+: zs) l.length w := fun lp J Jx W hW _ _ hY h0 => by
  have hc' := (hW.cell (p := ⟨Bs, 0, none⟩) hBs).trans hc
  have hzl : zs.length = l.length := by
    have := congrArg List.length hz
    simpa [backL] using this
  rcases hI with hl | ⟨b, off, hao, hb, hr⟩
  · subst hl
    exact backward1_in F n h7 hro hn lp Bs n₀ 0 0 0 cap ao (fun h => absurd h (by omega)) zs (by omega) (fun h => absurd h (by omega)) J Jx hY W hc' ⟨hzl, fun j hj => by rw [hzl] at hj; exact absurd hj (by simp)⟩ h0
  · refine backward1_in F n h7 hro hn lp Bs n₀ b off l.length cap ao (fun _ => hao) zs hreach (fun _ => hb) J Jx hY W hc' ⟨hzl, fun j hj => ?_⟩ h0
    have hjl : j < l.length := by omega
    have hv : zs[j].1 = (((l.length - 1 - j : Nat) : Int), l.getD (l.length - 1 - j) ⟨0, 0, 0, 0, 0⟩) := by
      have h1 : (zs.map Subtype.val)[j]? = (backL l)[j]? := by rw [hz]
      rw [List.getElem?_map, List.getElem?_eq_getElem hj] at h1
      unfold backL at h1
      rw [List.getElem?_map, List.getElem?_range hjl] at h1
      simpa using h1
    rw [hv]
    refine ⟨rfl, ?_⟩
    have hk : l.length - 1 - j < l.length := by omega
    rw [List.getD_eq_getElem?_getD, List.getElem?_eq_getElem hk]
    rcases hr with h | ⟨b', off', h1, h2, h3⟩
    · rw [h] at hjl; simp at hjl
    · rw [hao] at h1
      injection h1 with h1
      injection h1 with e1 e2
      subst e1; subst e2
      obtain ⟨a0, a1, a2, a3, a4⟩ := h3 _ hk
      have hbw : b < w.heap.size := h2
      exact ⟨(hW.cell (p := ⟨b, _, none⟩) hbw).trans a0, (hW.cell (p := ⟨b, _, none⟩) hbw).trans a1, (hW.cell (p := ⟨b, _, none⟩) hbw).trans a2, (hW.cell (p := ⟨b, _, none⟩) hbw).trans a3, (hW.cell (p := ⟨b, _, none⟩) hbw).trans a4⟩

set_option maxRecDepth 20000 in
/-- slices.Backward. -/
theorem backward_any (ao : Option Addr) (len cap : Nat) (w : World) :
    Calls Try.prog 43 #[.slice ao len cap] w fun e w' => e = .returned (.func (.func 59) #[] #[.pointer (some ⟨w.heap.size, 0, none⟩)]) ∧ w' = w.alloc (.cells #[.slice ao len cap] 22) := by
  go_enter Try.func43, Try.ntmps43
  go_wp2_with fail
  go_ret
  exact ⟨rfl, rfl⟩

theorem Blk.ownFrom {w w' : World} {b t : Nat} {C : List Value} {row : Option Nat} (h : Blk w b t C) (hg : w.grownBy w' row) (hr : ∀ r, row = some r → ∃ o : Obj, w.heap[r]? = some o ∧ o.isCells = false) : Blk w' b t C := by
  refine h.grown hg (fun e => ?_)
  obtain ⟨o, ho, hc⟩ := hr b e
  unfold Blk at h
  rw [h] at ho
  injection ho with ho
  subst ho
  cases hc
theorem own_isCells {w : World} {base e size n : Nat} {v : Value} {xs : List Value} (h : w.ownsRow base e size v n xs) (j : Nat) (o : Obj) (hj : v.ownBlock = some j) (ho : w.heap[j]? = some o) : o.isCells = true := by
  rcases h.2 with ⟨rfl, _⟩ | ⟨g', cap, cur, rfl, _, hg', _⟩
  · simp [Value.ownBlock] at hj
  · simp only [Value.ownBlock, Option.some.injEq] at hj
    subst hj
    rw [hg'] at ho
    injection ho with ho
    subst ho
    rfl
theorem own_ownFrom {w w' : World} {base e size n : Nat} {v : Value} {xs : List Value} {row : Option Nat} (h : w.ownsRow base e size v n xs) (hg : w.grownBy w' row) (hr : ∀ r, row = some r → ∃ o : Obj, w.heap[r]? = some o ∧ o.isCells = false) : w'.ownsRow base e size v n xs := by
  refine h.kept hg ?_
  cases hv : v.ownBlock with
  | none => exact Or.inl rfl
  | some g =>
    right
    intro e2
    obtain ⟨o, ho, hc⟩ := hr g e2.symm
    rcases h.2 with ⟨rfl, _⟩ | ⟨g', cap, cur, rfl, _, hg', _⟩
    · simp [Value.ownBlock] at hv
    · simp only [Value.ownBlock, Option.some.injEq] at hv
      subst hv
      rw [hg'] at ho
      injection ho with ho
      subst ho
      cases hc

/-- A range over a function, its last variable boxed in a block of its own in every round; the body never leaves. -/
theorem range_boxed {α : Type} {F : Fence} {n : Nat} {P : Program} {g : Operand} {ps : Array Tmp} {assign body : Code} {Q : Exit → Act → World → Prop} {a : Act} {w : World}
    (hro : F.round = none) (h1 : 1 ≤ n) {gf : Nat} {lb : Array Value} (hg : a.eval g = .func (.func gf) #[] lb) (hFg : F.fn gf) (eg : ∀ args w, (callFunc gf args).run P w = .ok (.enter gf args) w)
    {encs : α → Array Value} {Kp : World → World → Prop} {S Sp : List α → Prop} {N : Nat} {w0 : World} (hseq : SeqStopsK F (n - 1) P gf lb encs Kp S Sp N w0)
    (hKt : ∀ {A B C : World}, Kp A B → Kp B C → Kp A C) (hKb : ∀ (W : World) (l : Nat) (o o' : Obj), w.heap.size ≤ l → W.heap[l]? = some o → o.isCells = false → o.isWalk = false → Kp W (W.putObj l o')) (hb0 : Below w0.heap.size w0 w) (hps : ∀ x, (encs x).size = ps.size)
    (I : List α → World → Prop) (hI : OwnFrom w.heap.size I) (h0 : I [] w) (slot : Nat) (Z : α → Nat → World → Prop)
    (hZ : ∀ x Bx W W' row, Z x Bx W → W.grownBy W' row → (∀ r, row = some r → ∃ o : Obj, W.heap[r]? = some o ∧ o.isCells = false) → Z x Bx W')
    (hassign : ∀ (l : Nat) (pre : List α) (x : α) (W : World) (K : Act → World → Prop), I pre W →
      (∀ (Bx : Nat) (W' : World), w.heap.size ≤ Bx → KeepsFrom w.heap.size W W' → Kp W W' → I pre W' → Z x Bx W' → K { tmps := ((ps.zip (encs x)).foldl (fun t (p, v) => t.setIfInBounds p v) a.tmps).setIfInBounds slot (.pointer (some ⟨Bx, 0, none⟩)), defers := [] } W') →
      assign.wpIn (F.inRound l) (n - 1 - 1) P (Exit.then K (fun _ _ _ => False)) { tmps := (ps.zip (encs x)).foldl (fun t (p, v) => t.setIfInBounds p v) a.tmps, defers := [] } W)
    (hbody : ∀ (l : Nat) (pre : List α) (x : α) (Bx : Nat) (W : World), I pre W → Z x Bx W → w.heap.size ≤ Bx → pre.length < N →
      body.wpIn (F.inRound l) (n - 1 - 1) P (ownPostG w.heap.size Kp I (fun _ _ _ => False) (pre ++ [x]) W) { tmps := ((ps.zip (encs x)).foldl (fun t (p, v) => t.setIfInBounds p v) a.tmps).setIfInBounds slot (.pointer (some ⟨Bx, 0, none⟩)), defers := [] } W)
    (hdone : ∀ (D : Nat) (xs : List α) (W : World), w.heap.size ≤ D → S xs → I xs W → W.heap[D]? = some (.deferred (some [])) → Q .normal { a with defers := { target := .collected D, args := #[] } :: a.defers } W) :
    (Code.rangeFunc g ps assign body).wpIn F n P Q a w := by
  refine wpIn_rangeFunc_ownH hro h1 hg hFg eg hseq hKt hKb hb0 hps I (fun _ _ _ => False) hI (fun _ _ _ _ _ h _ _ => h) h0
    (fun x a' W => ∃ Bx, w.heap.size ≤ Bx ∧ Z x Bx W ∧ a' = { tmps := ((ps.zip (encs x)).foldl (fun t (p, v) => t.setIfInBounds p v) a.tmps).setIfInBounds slot (.pointer (some ⟨Bx, 0, none⟩)), defers := [] })
    (fun x a' s W W' row ⟨Bx, k1, k2, k3⟩ hgr hr => ⟨Bx, k1, hZ x Bx _ _ _ k2 hgr (fun r e => (hr r e).2), k3⟩)
    (fun l pre x W K hi hK => hassign l pre x W K hi (fun Bx W' k1 k2 k3 k4 k5 => hK _ W' k2 k3 k4 ⟨Bx, k1, k5, rfl⟩))
    (fun l pre x a' W _ _ hi hA hlen => ?_) hdone (fun _ _ _ _ _ _ h _ => h.elim)
  obtain ⟨Bx, k1, k2, rfl⟩ := hA
  exact hbody l pre x Bx W hi k2 k1 hlen
end Go.Proofs.Ytfmgncfikaefhaa
