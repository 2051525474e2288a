/- SectSafe's table of what each sector may hold. -/
import Derived.Test.YtnpiiggmdekfiaaSectS
namespace Go.Proofs.Ytnpiiggmdekfiaa
open Go.RowKit Go.Lib

theorem grown_setCell (w : World) (B o : Nat) (v : Value) : w.grownBy (w.setCell ⟨B, o, none⟩ v) (some B) := by
  have e := (Below.refl 0 w).setCell (p := ⟨B, o, none⟩) (Nat.zero_le _) v
  exact ⟨e.os, e.tape, e.output, e.size, fun k hk hne => Below.heap_setCell _ _ _ _ (by show k ≠ B; intro e2; exact hne (by rw [e2]))⟩
/-- A statement that draws its order: all orders come to one frame, but for three numbers. -/
def Met3 (F : Nat → Nat → Nat → Act) (R : World → Prop) : Exit → Act → World → Prop
  | .normal, a, w => ∃ g o k, a = F g o k ∧ R w
  | _, _, _ => False
theorem wp_meet3 {P : Program} {c : Code} {Q : Exit → Act → World → Prop} {a : Act} {w : World} (R : World → Prop)
    (h : ∃ F : Nat → Nat → Nat → Act, Code.wp P c (Met3 F R) a w ∧ ∀ g o k w', R w' → Q .normal (F g o k) w') : Code.wp P c Q a w := by
  obtain ⟨F, h1, h2⟩ := h
  refine wp_mono h1 ?_
  intro e a' w' h
  cases e <;> first | exact h.elim | (obtain ⟨g, o, k, rfl, hR⟩ := h; exact h2 g o k w' hR)
structure RowD where
  g : Nat
  off : Nat
  n : Nat
  cap : Nat
def RowD.val (r : RowD) : Value := .slice (some ⟨r.g, r.off, none⟩) r.n r.cap
/-- The first m of the four rows stand. -/
structure SectM.May (wr : World) (N0 B gs ge m : Nat) (R : Nat → RowD) (may : Nat → List ByteArray) : Prop where
  blk : Blk wr B 31 (Tab 4 (fun k => if k < m then (R k).val else .slice none 0 0))
  row : ∀ k, k < m → OffRow wr N0 9 (R k).g (R k).off (R k).n (R k).cap (strVals (may k))
  apart : ∀ i j, i < m → j < m → i ≠ j → (R i).g ≠ (R j).g
  s : ∀ k, k < m → (R k).g ≠ gs ∧ (R k).g ≠ ge
section
variable {w w' : World} {N0 B D gs ge n1 n2 cs ce m : Nat} {vl : Value} {d : DiskM} {R : Nat → RowD} {may : Nat → List ByteArray}
theorem OffRow.ne_blk {e t b g off n cap : Nat} {xs C : List Value} (h : OffRow w N0 e g off n cap xs) (hb : Blk w b t C) (ht : t ≠ e) : b ≠ g := by
  rintro rfl
  obtain ⟨cur, h1, _⟩ := h.row
  unfold Blk at hb
  rw [hb] at h1
  simp at h1
  exact ht h1.2
theorem OffRow.ne_own {e e' g off n cap size k base : Nat} {xs ys : List Value} {v : Value} (h : OffRow w N0 e g off n cap xs) (ho : w.ownsRow base e' size v k ys) (ht : e ≠ e') : v.ownBlock ≠ some g := by
  intro hb
  obtain ⟨cur, h1, _⟩ := h.row
  rcases ho.2 with ⟨rfl, _⟩ | ⟨g', cap', cur', rfl, _, hg, _⟩
  · cases hb
  · simp only [Value.ownBlock, Option.some.injEq] at hb
    subst hb
    rw [h1] at hg
    simp at hg
    exact ht hg.2
theorem SectM.May.below (h : SectM.May w N0 B gs ge m R may) (hb : Below w.heap.size w w') : SectM.May w' N0 B gs ge m R may :=
  ⟨h.blk.after hb, fun k hk => (h.row k hk).kept (hb.block _ (h.row k hk).lt), h.apart, h.s⟩
theorem SectM.May.alloc (h : SectM.May w N0 B gs ge m R may) (o : Obj) : SectM.May (w.alloc o) N0 B gs ge m R may := h.below ((Below.refl _ _).alloc (Nat.le_refl _) o)
theorem SectM.May.drew (h : SectM.May w N0 B gs ge m R may) : SectM.May w.drew N0 B gs ge m R may := ⟨h.blk, fun k hk => (h.row k hk).kept rfl, h.apart, h.s⟩
theorem SectM.May.not_mine (h : SectM.May w N0 B gs ge m R may) (ha : SectM.At w N0 D (.slice (some ⟨gs, 0, none⟩) n1 cs) (.slice (some ⟨ge, 0, none⟩) n2 ce) vl d) :
    ¬ SectM.Mine D (.slice (some ⟨gs, 0, none⟩) n1 cs) (.slice (some ⟨ge, 0, none⟩) n2 ce) vl B ∧ ∀ k, k < m → ¬ SectM.Mine D (.slice (some ⟨gs, 0, none⟩) n1 cs) (.slice (some ⟨ge, 0, none⟩) n2 ce) vl (R k).g := by
  constructor
  · rintro (e | e | e | e)
    · exact (h.blk.ne ha.blk (by decide)) e
    · exact h.blk.ne_own ha.safe (by decide) e
    · exact h.blk.ne_own ha.seen (by decide) e
    · exact h.blk.ne_own ha.late (by decide) e
  · rintro k hk (e | e | e | e)
    · exact (h.row k hk).ne_blk ha.blk (by decide) e.symm
    · simp only [Value.ownBlock, Option.some.injEq] at e; exact (h.s k hk).1 e.symm
    · simp only [Value.ownBlock, Option.some.injEq] at e; exact (h.s k hk).2 e.symm
    · exact (h.row k hk).ne_own ha.late (by decide) e
/-- A call of the disk's leaves the table. -/
theorem SectM.May.moved (h : SectM.May w N0 B gs ge m R may) (ha : SectM.At w N0 D (.slice (some ⟨gs, 0, none⟩) n1 cs) (.slice (some ⟨ge, 0, none⟩) n2 ce) vl d) (hk : KeptS (SectM.Mine D (.slice (some ⟨gs, 0, none⟩) n1 cs) (.slice (some ⟨ge, 0, none⟩) n2 ce) vl) w w') : SectM.May w' N0 B gs ge m R may := by
  obtain ⟨h1, h2⟩ := h.not_mine ha
  exact ⟨hk.blk h.blk h1, fun k hk' => (h.row k hk').kept (hk.block _ (h.row k hk').lt (h2 k hk')), h.apart, h.s⟩
/-- What turns the table alone leaves the disk. -/
theorem SectM.At.other (ha : SectM.At w N0 D (.slice (some ⟨gs, 0, none⟩) n1 cs) (.slice (some ⟨ge, 0, none⟩) n2 ce) vl d) {row : Option Nat} (hg : w.grownBy w' row) (hr : ∀ b, row = some b → ¬ SectM.Mine D (.slice (some ⟨gs, 0, none⟩) n1 cs) (.slice (some ⟨ge, 0, none⟩) n2 ce) vl b) :
    SectM.At w' N0 D (.slice (some ⟨gs, 0, none⟩) n1 cs) (.slice (some ⟨ge, 0, none⟩) n2 ce) vl d := by
  refine ⟨ha.blk.grown hg (fun e => hr D e (Or.inl rfl)), ha.lt, ha.safe.kept hg (Or.inr (fun e => ?_)), ha.seen.kept hg (Or.inr (fun e => ?_)), ?_, ha.apart, ha.left⟩
  · exact hr gs e.symm (Or.inr (Or.inl rfl))
  · exact hr ge e.symm (Or.inr (Or.inr (Or.inl rfl)))
  · refine ha.late.kept hg ?_
    cases hv : vl.ownBlock with
    | none => exact Or.inl rfl
    | some b => exact Or.inr (fun e => hr b e.symm (Or.inr (Or.inr (Or.inr hv))))
/-- A store into the table. -/
theorem SectM.May.put (h : SectM.May w N0 B gs ge m R may) {k : Nat} (hk : k < m) {w1 : World} (hg : w.grownBy w1 (some (R k).g)) (q : RowD) (l : List ByteArray) (hq : OffRow w1 N0 9 q.g q.off q.n q.cap (strVals l))
    (hat : q.g = (R k).g ∨ w.heap.size ≤ q.g) (hgs : q.g ≠ gs ∧ q.g ≠ ge) :
    SectM.May (w1.setCell ⟨B, k, none⟩ q.val) N0 B gs ge m (Go.Proofs.Ytnpiiggmdekfiaa.upd R k q) (SectM.upd may k l) := by
  have hB1 : Blk w1 B 31 (Tab 4 (fun k => if k < m then (R k).val else .slice none 0 0)) := h.blk.grown hg (by intro e; injection e with e; exact (h.row k hk).ne_blk h.blk (by decide) e.symm)
  have hs := hB1.tabSet k q.val
  refine ⟨?_, fun i hi => ?_, fun i j hi hj hij => ?_, fun i hi => ?_⟩
  · have e : Tab 4 (Go.Proofs.Ytnpiiggmdekfiaa.upd (fun k => if k < m then (R k).val else Value.slice none 0 0) k q.val) = Tab 4 (fun i => if i < m then (Go.Proofs.Ytnpiiggmdekfiaa.upd R k q i).val else .slice none 0 0) := by
      apply Tab_congr
      intro i hi
      unfold Go.Proofs.Ytnpiiggmdekfiaa.upd
      by_cases e : i = k
      · subst e; simp [hk]
      · simp [e]
    rw [e] at hs
    exact hs
  · by_cases e : i = k
    · subst e
      rw [upd_same]
      unfold SectM.upd
      rw [if_pos rfl]
      refine hq.kept (Below.heap_setCell _ _ _ _ ?_)
      exact fun e => hq.ne_blk hB1 (by decide) e.symm
    · rw [upd_other _ _ e]
      unfold SectM.upd
      rw [if_neg e]
      have h1 := (h.row i hi).kept (w' := w1) (hg.block _ (h.row i hi).lt (by intro e2; injection e2 with e2; exact h.apart i k hi hk e e2))
      exact h1.kept (Below.heap_setCell _ _ _ _ (fun e => h1.ne_blk hB1 (by decide) e.symm))
  · have hlt : ∀ i, i < m → (R i).g < w.heap.size := fun i hi => (h.row i hi).lt
    by_cases ei : i = k
    · subst ei
      rw [upd_same, upd_other _ _ (Ne.symm hij)]
      rcases hat with e | e
      · rw [e]; exact h.apart i j hi hj hij
      · have := hlt j hj; omega
    · rw [upd_other _ _ ei]
      by_cases ej : j = k
      · subst ej
        rw [upd_same]
        rcases hat with e | e
        · rw [e]; exact h.apart i j hi hj hij
        · have := hlt i hi; omega
      · rw [upd_other _ _ ej]
        exact h.apart i j hi hj hij
  · by_cases e : i = k
    · subst e; rw [upd_same]; exact hgs
    · rw [upd_other _ _ e]; exact h.s i hi
/-- A row is turned in its place. -/
theorem SectM.May.inRow (h : SectM.May w N0 B gs ge m R may) {k : Nat} (hk : k < m) {w1 : World} (hg : w.grownBy w1 (some (R k).g)) (l : List ByteArray) (hq : OffRow w1 N0 9 (R k).g (R k).off (R k).n (R k).cap (strVals l)) :
    SectM.May w1 N0 B gs ge m R (SectM.upd may k l) := by
  refine ⟨h.blk.grown hg (by intro e; injection e with e; exact (h.row k hk).ne_blk h.blk (by decide) e.symm), fun i hi => ?_, h.apart, h.s⟩
  unfold SectM.upd
  by_cases e : i = k
  · subst e; rw [if_pos rfl]; exact hq
  · rw [if_neg e]
    exact (h.row i hi).kept (hg.block _ (h.row i hi).lt (by intro e2; injection e2 with e2; exact h.apart i k hi hk e e2))
/-- One more row is laid. -/
theorem SectM.May.more (h : SectM.May w N0 B gs ge m R may) (hm : m < 4) (hN : N0 ≤ w.heap.size) (hgs : gs < w.heap.size ∧ ge < w.heap.size) (t : ByteArray) (hl : may m = [t]) :
    SectM.May ((w.alloc (.cells #[.string t] 9)).setCell ⟨B, m, none⟩ (.slice (some ⟨w.heap.size, 0, none⟩) 1 1)) N0 B gs ge (m + 1) (Go.Proofs.Ytnpiiggmdekfiaa.upd R m ⟨w.heap.size, 0, 1, 1⟩) may := by
  have hBl := h.blk.lt
  have ha := h.alloc (.cells #[.string t] 9)
  have hs := ha.blk.tabSet m (.slice (some ⟨w.heap.size, 0, none⟩) 1 1)
  have hne : ∀ k, k < m → (R k).g < w.heap.size := fun k hk => (h.row k hk).lt
  refine ⟨?_, fun k hk => ?_, fun i j hi hj hij => ?_, fun k hk => ?_⟩
  · have e : Tab 4 (Go.Proofs.Ytnpiiggmdekfiaa.upd (fun k => if k < m then (R k).val else Value.slice none 0 0) m (.slice (some ⟨w.heap.size, 0, none⟩) 1 1)) = Tab 4 (fun i => if i < m + 1 then (Go.Proofs.Ytnpiiggmdekfiaa.upd R m ⟨w.heap.size, 0, 1, 1⟩ i).val else .slice none 0 0) := by
      apply Tab_congr
      intro i hi
      unfold Go.Proofs.Ytnpiiggmdekfiaa.upd
      by_cases e : i = m
      · subst e; simp; rfl
      · by_cases e2 : i < m
        · simp [e, e2, Nat.lt_succ_of_lt e2]
        · simp [e, e2]; omega
    rw [e] at hs
    exact hs
  · by_cases e : k = m
    · subst e
      rw [upd_same]
      refine ⟨hN, Nat.le_refl _, by show 1 ≤ maxLen; decide, by rw [hl]; rfl, #[.string t], ?_, by show 0 + 1 ≤ 1; decide, fun j u hu => ?_⟩
      · rw [Below.heap_setCell _ _ _ _ (by show w.heap.size ≠ B; omega)]
        exact heap_alloc_new w _
      · rw [hl] at hu; rw [Nat.zero_add]; simpa [strVals] using hu
    · have hk' : k < m := by omega
      rw [upd_other _ _ e]
      exact (ha.row k hk').kept (Below.heap_setCell _ _ _ _ (fun e2 => (ha.row k hk').ne_blk ha.blk (by decide) e2.symm))
  · by_cases ei : i = m
    · subst ei
      rw [upd_same, upd_other _ _ (Ne.symm hij)]
      have := hne j (by omega)
      show w.heap.size ≠ _
      omega
    · rw [upd_other _ _ ei]
      by_cases ej : j = m
      · subst ej
        rw [upd_same]
        have := hne i (by omega)
        show _ ≠ w.heap.size
        omega
      · rw [upd_other _ _ ej]
        exact h.apart i j (by omega) (by omega) hij
  · by_cases e : k = m
    · subst e
      rw [upd_same]
      show w.heap.size ≠ gs ∧ w.heap.size ≠ ge
      omega
    · rw [upd_other _ _ e]; exact h.s k (by omega)
end
theorem OffRow.alloc {w : World} {base e g off n cap : Nat} {xs : List Value} (h : OffRow w base e g off n cap xs) (o : Obj) : OffRow (w.alloc o) base e g off n cap xs := h.kept (Below.heap_alloc _ _ _ h.lt)
theorem OffRow.drew {w : World} {base e g off n cap : Nat} {xs : List Value} (h : OffRow w base e g off n cap xs) : OffRow w.drew base e g off n cap xs := h.kept rfl
/-- append(a row that begins anywhere, one element), at a step of a region that draws its order. -/
theorem step_append_off {P : Program} {ops : Array Oper} {o : Oper} {a : Act} {w : World} {K : Act → World → Prop} {Q : Exit → Act → World → Prop} {E : Prop} (hgd : o.guard = none) (s x : Operand) (t : TypeId)
    (ho : o.op = .call { callee := .builtin .append, args := #[s, x], argTypes := #[t, t] })
    (base : Nat) (e : TypeId) (i : TypeInfo) (z : Value) (bytes : Nat) (ht : P.underlying t = some (.slice e)) (hi : P.info? e = some i) (hz : i.zero = some z) (hsize : i.size = 1) (hby : i.bytes = bytes) (hzs : z.cells.size = 1)
    (g off n cap : Nat) (xs : List Value) (hs : a.eval s = .slice (some ⟨g, off, none⟩) n cap) (hown : OffRow w base e g off n cap xs) (hbase : base ≤ w.heap.size)
    (ad : Addr) (c : Nat) (u : Value) (hx : a.eval x = .slice (some ad) 1 c) (hu : w.cell? ad = some u) (h1 : u.oneCell' = true) (h63 : n + 1 ≤ maxLen) (hbytes : (n + 1) * bytes ≤ 140737488355328) (ha : ad.spot = none)
    (h : ∀ g' off' cap' w', OffRow w' base e g' off' (n + 1) cap' (xs ++ [u]) → w.grownBy w' (some g) → (g' = g ∨ w.heap.size ≤ g') → K (a.put o.dst (.slice (some ⟨g', off', none⟩) (n + 1) cap')) w') :
    if Region.wanted o (yielded ops a.tmps) = true then Oper.wp P o a w K Q else E := by
  have hw : Region.wanted o (yielded ops a.tmps) = true := by simp [Region.wanted, hgd]
  rw [if_pos hw]
  obtain ⟨g', off', cap', w', hr, h2, h3, h4⟩ := hown.append (P := P) hbase t o.type i z bytes ht hi hz hsize hby hzs ad c u hu h1 h63 hbytes ha
  unfold Oper.wp execOp
  simp only [ho, resolve, invoke, builtin, Sem.run_bind, Sem.run_pure, Result.andThen_ok, List.map_toArray, List.map_cons, List.map_nil, hs, hx, hr]
  exact h g' off' cap' w' h2 h3 h4
theorem SectM.May.congr {w : World} {N0 B gs ge m : Nat} {R : Nat → RowD} {may may' : Nat → List ByteArray} (h : SectM.May w N0 B gs ge m R may) (e : ∀ k, k < m → may' k = may k) : SectM.May w N0 B gs ge m R may' :=
  ⟨h.blk, fun k hk => by rw [e k hk]; exact h.row k hk, h.apart, h.s⟩
theorem SectM.Inv.congr {d : DiskM} {may may' : Nat → List ByteArray} (h : SectM.Inv d may) (e : ∀ k, k < 4 → may' k = may k) : SectM.Inv d may' :=
  ⟨h.good, fun k hk => by rw [e k hk]; exact h.last k hk, fun k hk => by rw [e k hk]; exact h.safe k hk, fun x hx => by rw [e x.1 (h.good.late x hx)]; exact h.late x hx⟩
/-- The first i lists cut. -/
def SectM.tailTo (i : Nat) (may : Nat → List ByteArray) : Nat → List ByteArray := fun k => if k < i then SectM.tail may k else may k

/-- SectSafe, in its loop. -/
structure SectM.LawAt (w : World) (N0 B gs ge cs ce : Nat) (vl : Value) (d : DiskM) (R : Nat → RowD) (may : Nat → List ByteArray) (j : Nat) (wr : World) : Prop where
  below : Below N0 w wr
  at_ : SectM.At wr N0 N0 (.slice (some ⟨gs, 0, none⟩) 4 cs) (.slice (some ⟨ge, 0, none⟩) 4 ce) vl d
  tab : SectM.May wr N0 B gs ge 4 R may
  inv : SectM.Inv d may
  late : d.late.length ≤ j
  len : ∀ k, k < 4 → (may k).length ≤ j + 1
section
variable {w wr w' : World} {N0 B gs ge cs ce j : Nat} {vl vl' : Value} {d d' : DiskM} {R : Nat → RowD} {may : Nat → List ByteArray}
theorem SectM.LawAt.size (h : SectM.LawAt w N0 B gs ge cs ce vl d R may j wr) : N0 < wr.heap.size := h.at_.blk.lt
theorem SectM.LawAt.alloc (h : SectM.LawAt w N0 B gs ge cs ce vl d R may j wr) (o : Obj) : SectM.LawAt w N0 B gs ge cs ce vl d R may j (wr.alloc o) :=
  ⟨h.below.alloc (Nat.le_of_lt h.size) o, h.at_.alloc o, h.tab.alloc o, h.inv, h.late, h.len⟩
/-- A call of the disk's. -/
theorem SectM.LawAt.moved (h : SectM.LawAt w N0 B gs ge cs ce vl d R may j wr) (hm : SectM.Mv wr N0 N0 (.slice (some ⟨gs, 0, none⟩) 4 cs) (.slice (some ⟨ge, 0, none⟩) 4 ce) vl d' vl' w') :
    Below N0 w w' ∧ SectM.May w' N0 B gs ge 4 R may :=
  ⟨h.below.trans (hm.kept.below (Nat.le_of_lt h.size) (fun _ hb => (h.at_.mine_lt hb).1)), h.tab.moved h.at_ hm.kept⟩
theorem SectM.LawAt.next (h : SectM.LawAt w N0 B gs ge cs ce vl d R may j wr) : SectM.LawAt w N0 B gs ge cs ce vl d R may (j + 1) wr :=
  ⟨h.below, h.at_, h.tab, h.inv, Nat.le_succ_of_le h.late, fun k hk => Nat.le_succ_of_le (h.len k hk)⟩
end
theorem zeros_extract (a n : Nat) : (SectM.zeros n).extract a n = SectM.zeros (n - a) := by
  unfold SectM.zeros
  apply ByteArray.ext
  apply Array.ext'
  simp
theorem pad_eq2 (t : ByteArray) : t ++ (SectM.zeros 64).extract t.size 64 = SectM.pad t := by
  rw [zeros_extract, pad_eq]
end Go.Proofs.Ytnpiiggmdekfiaa
