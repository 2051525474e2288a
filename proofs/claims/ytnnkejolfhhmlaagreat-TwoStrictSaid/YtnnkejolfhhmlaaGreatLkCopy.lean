/- lock.copied: what it makes. -/
import Derived.Test.YtnnkejolfhhmlaaGreatLkT
import Derived.Test.YtnnkejolfhhmlaaGreatPutR
import Derived.Deep.AppendLies
namespace Go.Proofs.YtnnkejolfhhmlaaGreat
open Go.RowKit Go.Lib

def MetV (F : (Nat → Value) → Act) (R : (Nat → Value) → World → Prop) : Exit → Act → World → Prop
  | .normal, a, w => ∃ vals, a = F vals ∧ R vals w
  | _, _, _ => False
theorem wp_meetV {P : Program} {c : Code} {Q : Exit → Act → World → Prop} {a : Act} {w : World} (R : (Nat → Value) → World → Prop)
    (h : ∃ F : (Nat → Value) → Act, Code.wp P c (MetV F R) a w ∧ ∀ vals w', R vals w' → Q .normal (F vals) w') : Code.wp P c Q a w := by
  obtain ⟨F, h1, h2⟩ := h
  refine wp_mono h1 ?_
  intro e a' w' h
  cases e <;> first | exact h.elim | (obtain ⟨vals, rfl, hR⟩ := h; exact h2 vals w' hR)
/-- The midst of a round of copied: what has been cloned, built and appended. -/
structure LkM.CpS (w0 : World) (base : Nat) (tv : Value) (T : List LiM) (v : Nat → Value) (x : LiM) (b5 b8 b9 b10 b11 b12 : Bool) (v5 v8 v9 v10 v11 v12 : Value) (w : World) : Prop where
  pre : b11 = false → Below w0.heap.size w0 w
  r5 : b5 = true → b11 = false → w.ownsRow w0.heap.size 137 2 v5 x.held.length (lkVals x.held)
  r8 : b8 = true → b11 = false → w.ownsRow w0.heap.size 137 2 v8 x.queue.length (lkVals x.queue)
  ap : b5 = true → b8 = true → b11 = false → ∀ g, v5.ownBlock = some g → v8.ownBlock ≠ some g
  ag : b9 = true → v9 = .agg #[.int .i64 x.item, v5, v8]
  lit : b10 = true → b11 = false → ∃ b1, v10 = .slice (some ⟨b1, 0, none⟩) 1 1 ∧ Blk w b1 134 [.int .i64 x.item, v5, v8]
  fin : b11 = true → LkM.OwnT w base v11 (T ++ [x]) (upd (upd v (2 * T.length) v5) (2 * T.length + 1) v8) ∧ Below base w0 w
  asg : b12 = true → v12 = v11
namespace LkM
section
variable {w0 w w' : World} {base : Nat} {tv : Value} {T : List LiM} {v : Nat → Value} {x : LiM} {v5 v8 v9 v10 v11 v12 : Value}
theorem CpS.call5 {b8 : Bool} (h : CpS w0 base tv T v x false b8 false false false false v5 v8 v9 v10 v11 v12 w) {u : Value} (ho : w'.ownsRow w.heap.size 137 2 u x.held.length (lkVals x.held)) (hb : Below w.heap.size w w') : CpS w0 base tv T v x true b8 false false false false u v8 v9 v10 v11 v12 w' :=
  ⟨fun _ => (h.pre rfl).trans (hb.mono (h.pre rfl).size), fun _ _ => ownsRow_mono ho (h.pre rfl).size, fun h1 _ => ownsRow_below (h.r8 h1 rfl) hb, fun _ h1 _ g h2 h3 => by
    have := (ho.lt g h2).1; have := ((h.r8 h1 rfl).lt g h3).2; omega, (fun h1 => by cases h1), (fun h1 => by cases h1), (fun h1 => by cases h1), (fun h1 => by cases h1)⟩
theorem CpS.call8 {b5 : Bool} (h : CpS w0 base tv T v x b5 false false false false false v5 v8 v9 v10 v11 v12 w) {u : Value} (ho : w'.ownsRow w.heap.size 137 2 u x.queue.length (lkVals x.queue)) (hb : Below w.heap.size w w') : CpS w0 base tv T v x b5 true false false false false v5 u v9 v10 v11 v12 w' :=
  ⟨fun _ => (h.pre rfl).trans (hb.mono (h.pre rfl).size), fun h1 _ => ownsRow_below (h.r5 h1 rfl) hb, fun _ _ => ownsRow_mono ho (h.pre rfl).size, fun h1 _ _ g h2 h3 => by
    have := (ho.lt g h3).1; have := ((h.r5 h1 rfl).lt g h2).2; omega, (fun h1 => by cases h1), (fun h1 => by cases h1), (fun h1 => by cases h1), (fun h1 => by cases h1)⟩
theorem CpS.built (h : CpS w0 base tv T v x true true false false false false v5 v8 v9 v10 v11 v12 w) : CpS w0 base tv T v x true true true false false false v5 v8 (.agg #[.int .i64 x.item, v5, v8]) v10 v11 v12 w := ⟨h.pre, h.r5, h.r8, h.ap, fun _ => rfl, (fun h1 => by cases h1), (fun h1 => by cases h1), (fun h1 => by cases h1)⟩
theorem CpS.lay (h : CpS w0 base tv T v x true true true false false false v5 v8 v9 v10 v11 v12 w) : CpS w0 base tv T v x true true true true false false v5 v8 v9 (.slice (some ⟨w.heap.size, 0, none⟩) 1 1) v11 v12 (w.alloc (.cells #[.int .i64 x.item, v5, v8] 134)) :=
  ⟨fun _ => (h.pre rfl).alloc (h.pre rfl).size _, fun h1 h2 => (h.r5 h1 h2).alloc _, fun h1 h2 => (h.r8 h1 h2).alloc _, h.ap, h.ag, fun _ _ => ⟨_, rfl, Blk.new _ _ _⟩, (fun h1 => by cases h1), (fun h1 => by cases h1)⟩
theorem CpS.app (h : CpS w0 base tv T v x true true true true false false v5 v8 v9 v10 v11 v12 w) (hT : OwnT w0 base tv T v) (hbase : base ≤ w0.heap.size) {u : Value} (ho : w'.ownsRow base 134 3 u (T.length + 1) (liVals T v ++ [.int .i64 x.item, v5, v8])) (hg : w.grownBy w' tv.ownBlock) : CpS w0 base tv T v x true true true true true false v5 v8 v9 v10 u v12 w' :=
  ⟨(fun h1 => by cases h1), (fun _ h1 => by cases h1), (fun _ h1 => by cases h1), (fun _ _ h1 => by cases h1), h.ag, (fun _ h1 => by cases h1), fun _ =>
    ⟨hT.push (h.pre rfl) hbase (h.r5 rfl rfl) (h.r8 rfl rfl) (h.ap rfl rfl rfl) ho hg, ((h.pre rfl).mono hbase).grown hg (Nat.le_trans hbase (h.pre rfl).size) (fun k hk => (hT.tab.lt k hk).1)⟩, (fun h1 => by cases h1)⟩
theorem CpS.forms (h : CpS w0 base tv T v x true true false false false false v5 v8 v9 v10 v11 v12 w) : ∃ ha hc qa qc, v5 = .slice ha x.held.length hc ∧ v8 = .slice qa x.queue.length qc := by
  obtain ⟨ha, hc, h1, _⟩ := LksAt.own (h.r5 rfl rfl)
  obtain ⟨qa, qc, h2, _⟩ := LksAt.own (h.r8 rfl rfl)
  exact ⟨ha, hc, qa, qc, h1, h2⟩
theorem CpS.forms' (h : CpS w0 base tv T v x true true true false false false v5 v8 v9 v10 v11 v12 w) : ∃ ha hc qa qc, v5 = .slice ha x.held.length hc ∧ v8 = .slice qa x.queue.length qc := by
  obtain ⟨ha, hc, h1, _⟩ := LksAt.own (h.r5 rfl rfl)
  obtain ⟨qa, qc, h2, _⟩ := LksAt.own (h.r8 rfl rfl)
  exact ⟨ha, hc, qa, qc, h1, h2⟩
theorem CpS.assign (h : CpS w0 base tv T v x true true true true true false v5 v8 v9 v10 v11 v12 w) : CpS w0 base tv T v x true true true true true true v5 v8 v9 v10 v11 v11 w := ⟨h.pre, h.r5, h.r8, h.ap, h.ag, h.lit, h.fin, fun _ => rfl⟩
end
end LkM

set_option maxRecDepth 20000 in
set_option maxHeartbeats 16000000 in
theorem copied_any (t : List LiM) (ao : Option Addr) (cap lo : Nat) (w : World) (h : LisIn w lo ao t) (hs : t.length ≤ 20) (hl : ∀ x ∈ t, x.held.length ≤ 12 ∧ x.queue.length ≤ 12) :
    Calls Tryz.prog 70 #[.slice ao t.length cap] w fun e w' => ∃ tv v, e = .returned tv ∧ LkM.OwnT w' w.heap.size tv t v ∧ Below w.heap.size w w' := by
  obtain ⟨i0, hi0, hz0, hz1, hz2⟩ := info_parts Tryz.infoLi
  have H := box h; have HL := box hl
  clear h hl
  obtain ⟨N, HN⟩ : ∃ N, Box (t.length = N) := ⟨_, ⟨rfl⟩⟩
  rw [HN.out] at hs ⊢
  go_enter Tryz.func70, Tryz.ntmps70
  go_wp2_with fail
  go_loopw [3, 8] (fun t3 t8 wr => ∃ (k : Nat) (v : Nat → Value) (ao2 : Option Addr) (cp2 : Nat), k ≤ N ∧ t8 = .int .i64 (k : Int) ∧ t3 = .slice ao2 k cp2 ∧ Box (LkM.OwnT wr w.heap.size (.slice ao2 k cp2) (t.take k) v ∧ Below w.heap.size w wr)) (fun _ t8 _ => N - (RowKit.intOf t8).toNat)
  case atStart => exact ⟨0, fun _ => .slice none 0 0, none, 0, Nat.zero_le _, rfl, rfl, ⟨LkM.OwnT.nil _ _, Below.refl _ _⟩⟩
  case round =>
    obtain ⟨k, v, ao2, cp2, hk, rfl, rfl, HR⟩ := hrel
    by_cases hlt : k < N
    · have hkl : k < t.length := by rw [HN.out]; exact hlt
      obtain ⟨b, off, rfl, _, hb, hrow⟩ := (H.out.below HR.out.2 (Nat.le_refl _)).resolve_left (by intro h; rw [h] at hkl; simp at hkl)
      obtain ⟨ha, hc, qa, qc, hli⟩ := hrow k hkl
      have hlx := HL.out _ (List.getElem_mem hkl)
      have HSn : Box (t.take (k + 1) = t.take k ++ [t[k]]) := ⟨List.take_succ_eq_append_getElem hkl⟩
      have hTl : (t.take k).length = k := by rw [List.length_take]; omega
      generalize t[k] = x at *
      obtain ⟨c0, c1, c2, hH, hQ, hcap, hqcap, hnil, qnil⟩ := hli
      have hcc : k ≤ cp2 := by
        obtain ⟨ao3, cp3, hvt, _, hcc, _⟩ := HR.out.1.in_ (by rw [hTl]; omega)
        injection hvt with _ _ h3
        rw [hTl] at hcc
        omega
      have HW : Box (LkM.OwnT (wr.alloc (.cells #[.int .i64 x.item, .slice ha x.held.length hc, .slice qa x.queue.length qc] 134)) w.heap.size (.slice ao2 k cp2) (t.take k) v ∧ Below w.heap.size w (wr.alloc (.cells #[.int .i64 x.item, .slice ha x.held.length hc, .slice qa x.queue.length qc] 134)) ∧
          Blk (wr.alloc (.cells #[.int .i64 x.item, .slice ha x.held.length hc, .slice qa x.queue.length qc] 134)) wr.heap.size 134 [.int .i64 x.item, .slice ha x.held.length hc, .slice qa x.queue.length qc]) := ⟨HR.out.1.alloc _, HR.out.2.alloc HR.out.2.size _, Blk.new _ _ _⟩
      obtain ⟨I, HI⟩ : ∃ x, Box (wr.heap.size = x) := ⟨_, ⟨rfl⟩⟩
      have hgb : Below wr.heap.size wr (wr.alloc (.cells #[.int .i64 x.item, .slice ha x.held.length hc, .slice qa x.queue.length qc] 134)) := (Below.refl _ _).alloc (Nat.le_refl _) _
      have HC5 := box (fun wx (hb : Below (wr.alloc (.cells #[.int .i64 x.item, .slice ha x.held.length hc, .slice qa x.queue.length qc] 134)).heap.size (wr.alloc (.cells #[.int .i64 x.item, .slice ha x.held.length hc, .slice qa x.queue.length qc] 134)) wx) => clone_lks x.held ha hc wx ((hH.at.below hgb (Nat.le_refl _)).below hb (Nat.le_refl _)) hnil (by omega))
      have HC8 := box (fun wx (hb : Below (wr.alloc (.cells #[.int .i64 x.item, .slice ha x.held.length hc, .slice qa x.queue.length qc] 134)).heap.size (wr.alloc (.cells #[.int .i64 x.item, .slice ha x.held.length hc, .slice qa x.queue.length qc] 134)) wx) => clone_lks x.queue qa qc wx ((hQ.at.below hgb (Nat.le_refl _)).below hb (Nat.le_refl _)) qnil (by omega))
      obtain ⟨W1, HW1⟩ : ∃ W, Box (wr.alloc (.cells #[.int .i64 x.item, .slice ha x.held.length hc, .slice qa x.queue.length qc] 134) = W) := ⟨_, ⟨rfl⟩⟩
      rw [HW1.out] at HW HC5 HC8
      rw [HI.out] at HW
      clear hrow hH hQ hgb
      go_upto_region 5 with (fail)
      rw [HI.out, HW1.out]
      clear c0 c1 c2 HW1 hb
      refine wp_meetV (fun vals wx => ∃ (ao3 : Option Addr) (cp3 : Nat) (v' : Nat → Value), vals 12 = .slice ao3 (k + 1) cp3 ∧ Box (LkM.OwnT wx w.heap.size (.slice ao3 (k + 1) cp3) (t.take (k + 1)) v' ∧ Below w.heap.size w wx)) ?_
      apply Exists.intro
      constructor
      · skip
        obtain ⟨PV, HPV⟩ : ∃ PV : Nat → Option Value, Box (PV = fun i => ([some (.slice ao2 k cp2), some (.pointer (some ⟨I, 0, none⟩)), some (.int .i64 x.item), some (.pointer (some ⟨I, 1, none⟩)), some (.slice ha x.held.length hc), none, some (.pointer (some ⟨I, 2, none⟩)), some (.slice qa x.queue.length qc), none, none, none, none, none] : List (Option Value)).getD i none) := ⟨_, ⟨rfl⟩⟩
        refine wp_region_dagv (by kernel_rfl) (fun Lf vals wx => (∀ i v, PV i = some v → Lf.getD i false = true → vals i = v) ∧ LkM.CpS W1 w.heap.size (.slice ao2 k cp2) (t.take k) v x (Lf.getD 5 false) (Lf.getD 8 false) (Lf.getD 9 false) (Lf.getD 10 false) (Lf.getD 11 false) (Lf.getD 12 false) (vals 5) (vals 8) (vals 9) (vals 10) (vals 11) (vals 12) wx) (by kernel_rfl) ?_ ?_ ?_
        · refine ⟨fun i v _ h => absurd h (by simp [Array.getD_eq_getD_getElem?, Array.getElem?_replicate]; try (split <;> simp)), ?_⟩
          simp only [Array.getD_eq_getD_getElem?, Array.getElem?_replicate, List.size_toArray, List.length_cons, List.length_nil, Nat.reduceAdd, Nat.reduceLT, if_true, Option.getD_some]
          exact ⟨fun _ => (Below.refl _ _).drew, fun h => (by cases h), fun h => (by cases h), fun h => (by cases h), fun h => (by cases h), fun h => (by cases h), fun h => (by cases h), fun h => (by cases h)⟩
        · intro i hi o ho Lf vals b wx hat haft hL hR
          obtain ⟨hP, hS⟩ := hR
          have hco := hat.const
          have hkeep : ∀ i v, (PV i = some v ∨ PV i = none) → Lf.getD i true = false → (∀ j u, PV j = some u → (Lf.setIfInBounds i true).getD j false = true → Dag.turn vals i v j = u) := fun i v hv hL j u hu hj => by
            by_cases e : j = i
            · subst e; rw [Dag.turn_same]; rcases hv with hv | hv <;> rw [hv] at hu <;> simp at hu; exact hu
            · rw [Dag.turn_other _ _ e]; rw [getD_set_ne false (Ne.symm e)] at hj; exact hP j u hu hj
          have r5 : b.eval (.tmp 5) = .pointer (some ⟨I, 0, none⟩) := hat.old 5 (by
            intro j o' hj
            match j with
            | 0 | 1 | 2 | 3 | 4 | 5 | 6 | 7 | 8 | 9 | 10 | 11 | 12 => injection hj with hj; subst hj; simp
            | j + 13 => cases hj)
          have hcl : Lf.getD 11 false = false → (wx.cell? ⟨I, 0, none⟩ = some (.int .i64 x.item) ∧ wx.cell? ⟨I, 1, none⟩ = some (.slice ha x.held.length hc) ∧ wx.cell? ⟨I, 2, none⟩ = some (.slice qa x.queue.length qc)) := fun h11 => by
            have hI := HW.out.2.2.after (hS.pre h11)
            exact ⟨hI.cell rfl, hI.cell rfl, hI.cell rfl⟩
          match i, hi with
          | 0, _ =>
            injection ho with ho
            subst ho
            have h12 : Lf.getD 12 false = false := by
              cases h : Lf.getD 12 false with
              | false => rfl
              | true => have := hat.closed 12 _ h rfl ⟨0, .phase⟩ (by simp) rfl; rw [Dag.off hL] at this; cases this
            have r3 : b.eval (.tmp 3) = .slice ao2 k cp2 := hat.late 3 (by
              intro j o' hLj hj
              match j with
              | 12 => rw [h12] at hLj; cases hLj
              | 0 | 1 | 2 | 3 | 4 | 5 | 6 | 7 | 8 | 9 | 10 | 11 => injection hj with hj; subst hj; simp
              | j + 13 => cases hj)
            refine Dag.yields (w' := wx) (.slice ao2 k cp2) ?_ ⟨.slice ao2 k cp2, rfl, hkeep 0 _ (Or.inl (by rw [HPV.out]; rfl)) hL, ?_⟩
            · clear hP hS hat haft hkeep hL
              generalize b.eval = ρ at *
              go_simp
            · simp only [getD_set_ne false (show 0 ≠ 5 by decide), getD_set_ne false (show 0 ≠ 8 by decide), getD_set_ne false (show 0 ≠ 9 by decide), getD_set_ne false (show 0 ≠ 10 by decide), getD_set_ne false (show 0 ≠ 11 by decide), getD_set_ne false (show 0 ≠ 12 by decide), Dag.turn_other vals (i := 0) (j := 5) _ (by decide), Dag.turn_other vals (i := 0) (j := 8) _ (by decide), Dag.turn_other vals (i := 0) (j := 9) _ (by decide), Dag.turn_other vals (i := 0) (j := 10) _ (by decide), Dag.turn_other vals (i := 0) (j := 11) _ (by decide), Dag.turn_other vals (i := 0) (j := 12) _ (by decide)]
              exact hS
          | 1, _ =>
            injection ho with ho
            subst ho
            refine Dag.yields (w' := wx) (.pointer (some ⟨I, 0, none⟩)) ?_ ⟨.pointer (some ⟨I, 0, none⟩), rfl, hkeep 1 _ (Or.inl (by rw [HPV.out]; rfl)) hL, ?_⟩
            · clear hP hS hat haft hkeep hL
              generalize b.eval = ρ at *
              go_simp
            · simp only [getD_set_ne false (show 1 ≠ 5 by decide), getD_set_ne false (show 1 ≠ 8 by decide), getD_set_ne false (show 1 ≠ 9 by decide), getD_set_ne false (show 1 ≠ 10 by decide), getD_set_ne false (show 1 ≠ 11 by decide), getD_set_ne false (show 1 ≠ 12 by decide), Dag.turn_other vals (i := 1) (j := 5) _ (by decide), Dag.turn_other vals (i := 1) (j := 8) _ (by decide), Dag.turn_other vals (i := 1) (j := 9) _ (by decide), Dag.turn_other vals (i := 1) (j := 10) _ (by decide), Dag.turn_other vals (i := 1) (j := 11) _ (by decide), Dag.turn_other vals (i := 1) (j := 12) _ (by decide)]
              exact hS
          | 2, _ =>
            injection ho with ho
            subst ho
            have e13 : b.eval (.tmp 13) = .pointer (some ⟨I, 0, none⟩) := (hat.new 1 _ 13 (haft ⟨1, .data⟩ (by simp) rfl) rfl rfl).trans (hP 1 _ (by rw [HPV.out]; rfl) (haft ⟨1, .data⟩ (by simp) rfl))
            have h9 : Lf.getD 9 false = false := by
              cases h : Lf.getD 9 false with
              | false => rfl
              | true => have := hat.closed 9 _ h rfl ⟨2, .data⟩ (by simp) rfl; rw [Dag.off hL] at this; cases this
            have h10 : Lf.getD 10 false = false := by
              cases h : Lf.getD 10 false with
              | false => rfl
              | true => have := hat.closed 10 _ h rfl ⟨9, .data⟩ (by simp) rfl; rw [h9] at this; cases this
            have h11 : Lf.getD 11 false = false := by
              cases h : Lf.getD 11 false with
              | false => rfl
              | true => have := hat.closed 11 _ h rfl ⟨10, .data⟩ (by simp) rfl; rw [h10] at this; cases this
            obtain ⟨c0, c1, c2⟩ := hcl h11
            refine Dag.yields (w' := wx) (.int .i64 x.item) ?_ ⟨.int .i64 x.item, rfl, hkeep 2 _ (Or.inl (by rw [HPV.out]; rfl)) hL, ?_⟩
            · clear hP hS hat haft hkeep hL hcl
              generalize b.eval = ρ at *
              go_simp
            simp only [getD_set_ne false (show 2 ≠ 5 by decide), getD_set_ne false (show 2 ≠ 8 by decide), getD_set_ne false (show 2 ≠ 9 by decide), getD_set_ne false (show 2 ≠ 10 by decide), getD_set_ne false (show 2 ≠ 11 by decide), getD_set_ne false (show 2 ≠ 12 by decide), Dag.turn_other vals (i := 2) (j := 5) _ (by decide), Dag.turn_other vals (i := 2) (j := 8) _ (by decide), Dag.turn_other vals (i := 2) (j := 9) _ (by decide), Dag.turn_other vals (i := 2) (j := 10) _ (by decide), Dag.turn_other vals (i := 2) (j := 11) _ (by decide), Dag.turn_other vals (i := 2) (j := 12) _ (by decide)]
            exact hS
          | 3, _ =>
            injection ho with ho
            subst ho
            refine Dag.yields (w' := wx) (.pointer (some ⟨I, 1, none⟩)) ?_ ⟨.pointer (some ⟨I, 1, none⟩), rfl, hkeep 3 _ (Or.inl (by rw [HPV.out]; rfl)) hL, ?_⟩
            · clear hP hS hat haft hkeep hL
              generalize b.eval = ρ at *
              go_simp
            · simp only [getD_set_ne false (show 3 ≠ 5 by decide), getD_set_ne false (show 3 ≠ 8 by decide), getD_set_ne false (show 3 ≠ 9 by decide), getD_set_ne false (show 3 ≠ 10 by decide), getD_set_ne false (show 3 ≠ 11 by decide), getD_set_ne false (show 3 ≠ 12 by decide), Dag.turn_other vals (i := 3) (j := 5) _ (by decide), Dag.turn_other vals (i := 3) (j := 8) _ (by decide), Dag.turn_other vals (i := 3) (j := 9) _ (by decide), Dag.turn_other vals (i := 3) (j := 10) _ (by decide), Dag.turn_other vals (i := 3) (j := 11) _ (by decide), Dag.turn_other vals (i := 3) (j := 12) _ (by decide)]
              exact hS
          | 4, _ =>
            injection ho with ho
            subst ho
            have e15 : b.eval (.tmp 15) = .pointer (some ⟨I, 1, none⟩) := (hat.new 3 _ 15 (haft ⟨3, .data⟩ (by simp) rfl) rfl rfl).trans (hP 3 _ (by rw [HPV.out]; rfl) (haft ⟨3, .data⟩ (by simp) rfl))
            have h5 : Lf.getD 5 false = false := by
              cases h : Lf.getD 5 false with
              | false => rfl
              | true => have := hat.closed 5 _ h rfl ⟨4, .data⟩ (by simp) rfl; rw [Dag.off hL] at this; cases this
            have h9 : Lf.getD 9 false = false := by
              cases h : Lf.getD 9 false with
              | false => rfl
              | true => have := hat.closed 9 _ h rfl ⟨5, .data⟩ (by simp) rfl; rw [h5] at this; cases this
            have h10 : Lf.getD 10 false = false := by
              cases h : Lf.getD 10 false with
              | false => rfl
              | true => have := hat.closed 10 _ h rfl ⟨9, .data⟩ (by simp) rfl; rw [h9] at this; cases this
            have h11 : Lf.getD 11 false = false := by
              cases h : Lf.getD 11 false with
              | false => rfl
              | true => have := hat.closed 11 _ h rfl ⟨10, .data⟩ (by simp) rfl; rw [h10] at this; cases this
            obtain ⟨c0, c1, c2⟩ := hcl h11
            refine Dag.yields (w' := wx) (.slice ha x.held.length hc) ?_ ⟨.slice ha x.held.length hc, rfl, hkeep 4 _ (Or.inl (by rw [HPV.out]; rfl)) hL, ?_⟩
            · clear hP hS hat haft hkeep hL hcl
              generalize b.eval = ρ at *
              go_simp
            simp only [getD_set_ne false (show 4 ≠ 5 by decide), getD_set_ne false (show 4 ≠ 8 by decide), getD_set_ne false (show 4 ≠ 9 by decide), getD_set_ne false (show 4 ≠ 10 by decide), getD_set_ne false (show 4 ≠ 11 by decide), getD_set_ne false (show 4 ≠ 12 by decide), Dag.turn_other vals (i := 4) (j := 5) _ (by decide), Dag.turn_other vals (i := 4) (j := 8) _ (by decide), Dag.turn_other vals (i := 4) (j := 9) _ (by decide), Dag.turn_other vals (i := 4) (j := 10) _ (by decide), Dag.turn_other vals (i := 4) (j := 11) _ (by decide), Dag.turn_other vals (i := 4) (j := 12) _ (by decide)]
            exact hS
          | 5, _ =>
            injection ho with ho
            subst ho
            have e16 : b.eval (.tmp 16) = .slice ha x.held.length hc := (hat.new 4 _ 16 (haft ⟨4, .data⟩ (by simp) rfl) rfl rfl).trans (hP 4 _ (by rw [HPV.out]; rfl) (haft ⟨4, .data⟩ (by simp) rfl))
            have h9 : Lf.getD 9 false = false := by
              cases h : Lf.getD 9 false with
              | false => rfl
              | true => have := hat.closed 9 _ h rfl ⟨5, .data⟩ (by simp) rfl; rw [Dag.off hL] at this; cases this
            have h10 : Lf.getD 10 false = false := by
              cases h : Lf.getD 10 false with
              | false => rfl
              | true => have := hat.closed 10 _ h rfl ⟨9, .data⟩ (by simp) rfl; rw [h9] at this; cases this
            have h11 : Lf.getD 11 false = false := by
              cases h : Lf.getD 11 false with
              | false => rfl
              | true => have := hat.closed 11 _ h rfl ⟨10, .data⟩ (by simp) rfl; rw [h10] at this; cases this
            have h12 : Lf.getD 12 false = false := by
              cases h : Lf.getD 12 false with
              | false => rfl
              | true => have := hat.closed 12 _ h rfl ⟨11, .data⟩ (by simp) rfl; rw [h11] at this; cases this
            rw [Dag.off hL] at hS
            refine Dag.calls (w' := wx) (f := 101) (args := #[.slice ha x.held.length hc]) ?_ (fun v w'' => w''.ownsRow wx.heap.size 137 2 v x.held.length (lkVals x.held) ∧ Below wx.heap.size wx w'') ?_ ?_
            · have ef : b.eval (.func 101) = .func (.func 101) #[] #[] := rfl
              clear hP hS hat haft hkeep hL
              generalize b.eval = ρ at *
              go_simp
            · refine (HC5.out wx (hS.pre h11)).mono ?_
              rintro e w'' ⟨⟨v, rfl, ho⟩, hb⟩
              exact ⟨v, rfl, ho, hb⟩
            · rintro u w'' ⟨ho, hb⟩
              refine ⟨u, rfl, hkeep 5 _ (Or.inr (by rw [HPV.out]; rfl)) hL, ?_⟩
              rw [Dag.on hL]
              simp only [getD_set_ne false (show 5 ≠ 8 by decide), getD_set_ne false (show 5 ≠ 9 by decide), getD_set_ne false (show 5 ≠ 10 by decide), getD_set_ne false (show 5 ≠ 11 by decide), getD_set_ne false (show 5 ≠ 12 by decide), Dag.turn_same, Dag.turn_other vals (i := 5) (j := 8) _ (by decide), Dag.turn_other vals (i := 5) (j := 9) _ (by decide), Dag.turn_other vals (i := 5) (j := 10) _ (by decide), Dag.turn_other vals (i := 5) (j := 11) _ (by decide), Dag.turn_other vals (i := 5) (j := 12) _ (by decide)]
              rw [h9, h10, h11, h12] at hS ⊢
              exact hS.call5 ho hb
          | 6, _ =>
            injection ho with ho
            subst ho
            refine Dag.yields (w' := wx) (.pointer (some ⟨I, 2, none⟩)) ?_ ⟨.pointer (some ⟨I, 2, none⟩), rfl, hkeep 6 _ (Or.inl (by rw [HPV.out]; rfl)) hL, ?_⟩
            · clear hP hS hat haft hkeep hL
              generalize b.eval = ρ at *
              go_simp
            · simp only [getD_set_ne false (show 6 ≠ 5 by decide), getD_set_ne false (show 6 ≠ 8 by decide), getD_set_ne false (show 6 ≠ 9 by decide), getD_set_ne false (show 6 ≠ 10 by decide), getD_set_ne false (show 6 ≠ 11 by decide), getD_set_ne false (show 6 ≠ 12 by decide), Dag.turn_other vals (i := 6) (j := 5) _ (by decide), Dag.turn_other vals (i := 6) (j := 8) _ (by decide), Dag.turn_other vals (i := 6) (j := 9) _ (by decide), Dag.turn_other vals (i := 6) (j := 10) _ (by decide), Dag.turn_other vals (i := 6) (j := 11) _ (by decide), Dag.turn_other vals (i := 6) (j := 12) _ (by decide)]
              exact hS
          | 7, _ =>
            injection ho with ho
            subst ho
            have e18 : b.eval (.tmp 18) = .pointer (some ⟨I, 2, none⟩) := (hat.new 6 _ 18 (haft ⟨6, .data⟩ (by simp) rfl) rfl rfl).trans (hP 6 _ (by rw [HPV.out]; rfl) (haft ⟨6, .data⟩ (by simp) rfl))
            have h8 : Lf.getD 8 false = false := by
              cases h : Lf.getD 8 false with
              | false => rfl
              | true => have := hat.closed 8 _ h rfl ⟨7, .data⟩ (by simp) rfl; rw [Dag.off hL] at this; cases this
            have h9 : Lf.getD 9 false = false := by
              cases h : Lf.getD 9 false with
              | false => rfl
              | true => have := hat.closed 9 _ h rfl ⟨8, .data⟩ (by simp) rfl; rw [h8] at this; cases this
            have h10 : Lf.getD 10 false = false := by
              cases h : Lf.getD 10 false with
              | false => rfl
              | true => have := hat.closed 10 _ h rfl ⟨9, .data⟩ (by simp) rfl; rw [h9] at this; cases this
            have h11 : Lf.getD 11 false = false := by
              cases h : Lf.getD 11 false with
              | false => rfl
              | true => have := hat.closed 11 _ h rfl ⟨10, .data⟩ (by simp) rfl; rw [h10] at this; cases this
            obtain ⟨c0, c1, c2⟩ := hcl h11
            refine Dag.yields (w' := wx) (.slice qa x.queue.length qc) ?_ ⟨.slice qa x.queue.length qc, rfl, hkeep 7 _ (Or.inl (by rw [HPV.out]; rfl)) hL, ?_⟩
            · clear hP hS hat haft hkeep hL hcl
              generalize b.eval = ρ at *
              go_simp
            simp only [getD_set_ne false (show 7 ≠ 5 by decide), getD_set_ne false (show 7 ≠ 8 by decide), getD_set_ne false (show 7 ≠ 9 by decide), getD_set_ne false (show 7 ≠ 10 by decide), getD_set_ne false (show 7 ≠ 11 by decide), getD_set_ne false (show 7 ≠ 12 by decide), Dag.turn_other vals (i := 7) (j := 5) _ (by decide), Dag.turn_other vals (i := 7) (j := 8) _ (by decide), Dag.turn_other vals (i := 7) (j := 9) _ (by decide), Dag.turn_other vals (i := 7) (j := 10) _ (by decide), Dag.turn_other vals (i := 7) (j := 11) _ (by decide), Dag.turn_other vals (i := 7) (j := 12) _ (by decide)]
            exact hS
          | 8, _ =>
            injection ho with ho
            subst ho
            have e19 : b.eval (.tmp 19) = .slice qa x.queue.length qc := (hat.new 7 _ 19 (haft ⟨7, .data⟩ (by simp) rfl) rfl rfl).trans (hP 7 _ (by rw [HPV.out]; rfl) (haft ⟨7, .data⟩ (by simp) rfl))
            have h9 : Lf.getD 9 false = false := by
              cases h : Lf.getD 9 false with
              | false => rfl
              | true => have := hat.closed 9 _ h rfl ⟨8, .data⟩ (by simp) rfl; rw [Dag.off hL] at this; cases this
            have h10 : Lf.getD 10 false = false := by
              cases h : Lf.getD 10 false with
              | false => rfl
              | true => have := hat.closed 10 _ h rfl ⟨9, .data⟩ (by simp) rfl; rw [h9] at this; cases this
            have h11 : Lf.getD 11 false = false := by
              cases h : Lf.getD 11 false with
              | false => rfl
              | true => have := hat.closed 11 _ h rfl ⟨10, .data⟩ (by simp) rfl; rw [h10] at this; cases this
            have h12 : Lf.getD 12 false = false := by
              cases h : Lf.getD 12 false with
              | false => rfl
              | true => have := hat.closed 12 _ h rfl ⟨11, .data⟩ (by simp) rfl; rw [h11] at this; cases this
            rw [Dag.off hL] at hS
            refine Dag.calls (w' := wx) (f := 101) (args := #[.slice qa x.queue.length qc]) ?_ (fun v w'' => w''.ownsRow wx.heap.size 137 2 v x.queue.length (lkVals x.queue) ∧ Below wx.heap.size wx w'') ?_ ?_
            · have ef : b.eval (.func 101) = .func (.func 101) #[] #[] := rfl
              clear hP hS hat haft hkeep hL
              generalize b.eval = ρ at *
              go_simp
            · refine (HC8.out wx (hS.pre h11)).mono ?_
              rintro e w'' ⟨⟨v, rfl, ho⟩, hb⟩
              exact ⟨v, rfl, ho, hb⟩
            · rintro u w'' ⟨ho, hb⟩
              refine ⟨u, rfl, hkeep 8 _ (Or.inr (by rw [HPV.out]; rfl)) hL, ?_⟩
              rw [Dag.on hL]
              simp only [getD_set_ne false (show 8 ≠ 5 by decide), getD_set_ne false (show 8 ≠ 9 by decide), getD_set_ne false (show 8 ≠ 10 by decide), getD_set_ne false (show 8 ≠ 11 by decide), getD_set_ne false (show 8 ≠ 12 by decide), Dag.turn_same, Dag.turn_other vals (i := 8) (j := 5) _ (by decide), Dag.turn_other vals (i := 8) (j := 9) _ (by decide), Dag.turn_other vals (i := 8) (j := 10) _ (by decide), Dag.turn_other vals (i := 8) (j := 11) _ (by decide), Dag.turn_other vals (i := 8) (j := 12) _ (by decide)]
              rw [h9, h10, h11, h12] at hS ⊢
              exact hS.call8 ho hb
          | 9, _ =>
            injection ho with ho
            subst ho
            have e14 : b.eval (.tmp 14) = .int .i64 x.item := (hat.new 2 _ 14 (haft ⟨2, .data⟩ (by simp) rfl) rfl rfl).trans (hP 2 _ (by rw [HPV.out]; rfl) (haft ⟨2, .data⟩ (by simp) rfl))
            have e17 : b.eval (.tmp 17) = vals 5 := hat.new 5 _ 17 (haft ⟨5, .data⟩ (by simp) rfl) rfl rfl
            have l5 : Lf.getD 5 false = true := haft ⟨5, .data⟩ (by simp) rfl
            have e20 : b.eval (.tmp 20) = vals 8 := hat.new 8 _ 20 (haft ⟨8, .data⟩ (by simp) rfl) rfl rfl
            have l8 : Lf.getD 8 false = true := haft ⟨8, .data⟩ (by simp) rfl
            have h10 : Lf.getD 10 false = false := by
              cases h : Lf.getD 10 false with
              | false => rfl
              | true => have := hat.closed 10 _ h rfl ⟨9, .data⟩ (by simp) rfl; rw [Dag.off hL] at this; cases this
            have h11 : Lf.getD 11 false = false := by
              cases h : Lf.getD 11 false with
              | false => rfl
              | true => have := hat.closed 11 _ h rfl ⟨10, .data⟩ (by simp) rfl; rw [h10] at this; cases this
            have h12 : Lf.getD 12 false = false := by
              cases h : Lf.getD 12 false with
              | false => rfl
              | true => have := hat.closed 12 _ h rfl ⟨11, .data⟩ (by simp) rfl; rw [h11] at this; cases this
            rw [l5, l8, Dag.off hL, h10, h11, h12] at hS
            obtain ⟨ga, gc, ra, rc, f5, f8⟩ := hS.forms
            refine Dag.yields (w' := wx) (.agg #[.int .i64 x.item, vals 5, vals 8]) ?_ ⟨_, rfl, hkeep 9 _ (Or.inr (by rw [HPV.out]; rfl)) hL, ?_⟩
            · clear hP hS hat haft hkeep hL
              rw [f5] at e17 ⊢
              rw [f8] at e20 ⊢
              generalize b.eval = ρ at *
              go_simp
            rw [Dag.on hL]
            simp only [getD_set_ne false (show 9 ≠ 5 by decide), getD_set_ne false (show 9 ≠ 8 by decide), getD_set_ne false (show 9 ≠ 10 by decide), getD_set_ne false (show 9 ≠ 11 by decide), getD_set_ne false (show 9 ≠ 12 by decide), Dag.turn_same, Dag.turn_other vals (i := 9) (j := 5) _ (by decide), Dag.turn_other vals (i := 9) (j := 8) _ (by decide), Dag.turn_other vals (i := 9) (j := 10) _ (by decide), Dag.turn_other vals (i := 9) (j := 11) _ (by decide), Dag.turn_other vals (i := 9) (j := 12) _ (by decide)]
            rw [l5, l8, h10, h11, h12]
            exact hS.built
          | 10, _ =>
            injection ho with ho
            subst ho
            have e21 : b.eval (.tmp 21) = vals 9 := hat.new 9 _ 21 (haft ⟨9, .data⟩ (by simp) rfl) rfl rfl
            have l9 : Lf.getD 9 false = true := haft ⟨9, .data⟩ (by simp) rfl
            have l5 : Lf.getD 5 false = true := hat.closed 9 _ l9 rfl ⟨5, .data⟩ (by simp) rfl
            have l8 : Lf.getD 8 false = true := hat.closed 9 _ l9 rfl ⟨8, .data⟩ (by simp) rfl
            have h11 : Lf.getD 11 false = false := by
              cases h : Lf.getD 11 false with
              | false => rfl
              | true => have := hat.closed 11 _ h rfl ⟨10, .data⟩ (by simp) rfl; rw [Dag.off hL] at this; cases this
            have h12 : Lf.getD 12 false = false := by
              cases h : Lf.getD 12 false with
              | false => rfl
              | true => have := hat.closed 12 _ h rfl ⟨11, .data⟩ (by simp) rfl; rw [h11] at this; cases this
            rw [l5, l8, l9, Dag.off hL, h11, h12] at hS
            obtain ⟨ga, gc, ra, rc, f5, f8⟩ := hS.forms'
            have hv9 := hS.ag rfl
            refine Dag.yields (w' := wx.alloc (.cells #[.int .i64 x.item, vals 5, vals 8] 134)) (.slice (some ⟨wx.heap.size, 0, none⟩) 1 1) ?_ ⟨_, rfl, hkeep 10 _ (Or.inr (by rw [HPV.out]; rfl)) hL, ?_⟩
            · have q1 := e21.trans hv9
              clear hP hS hat haft hkeep hL e21 hv9
              rw [f5, f8] at q1 ⊢
              generalize b.eval = ρ at *
              go_simp
            rw [Dag.on hL]
            simp only [getD_set_ne false (show 10 ≠ 5 by decide), getD_set_ne false (show 10 ≠ 8 by decide), getD_set_ne false (show 10 ≠ 9 by decide), getD_set_ne false (show 10 ≠ 11 by decide), getD_set_ne false (show 10 ≠ 12 by decide), Dag.turn_same, Dag.turn_other vals (i := 10) (j := 5) _ (by decide), Dag.turn_other vals (i := 10) (j := 8) _ (by decide), Dag.turn_other vals (i := 10) (j := 9) _ (by decide), Dag.turn_other vals (i := 10) (j := 11) _ (by decide), Dag.turn_other vals (i := 10) (j := 12) _ (by decide)]
            rw [l5, l8, l9, h11, h12]
            exact hS.lay
          | 11, _ =>
            injection ho with ho
            subst ho
            have e12 : b.eval (.tmp 12) = .slice ao2 k cp2 := (hat.new 0 _ 12 (haft ⟨0, .data⟩ (by simp) rfl) rfl rfl).trans (hP 0 _ (by rw [HPV.out]; rfl) (haft ⟨0, .data⟩ (by simp) rfl))
            have e22 : b.eval (.tmp 22) = vals 10 := hat.new 10 _ 22 (haft ⟨10, .data⟩ (by simp) rfl) rfl rfl
            have l10 : Lf.getD 10 false = true := haft ⟨10, .data⟩ (by simp) rfl
            have l9 : Lf.getD 9 false = true := hat.closed 10 _ l10 rfl ⟨9, .data⟩ (by simp) rfl
            have l5 : Lf.getD 5 false = true := hat.closed 9 _ l9 rfl ⟨5, .data⟩ (by simp) rfl
            have l8 : Lf.getD 8 false = true := hat.closed 9 _ l9 rfl ⟨8, .data⟩ (by simp) rfl
            have h12 : Lf.getD 12 false = false := by
              cases h : Lf.getD 12 false with
              | false => rfl
              | true => have := hat.closed 12 _ h rfl ⟨11, .data⟩ (by simp) rfl; rw [Dag.off hL] at this; cases this
            rw [l5, l8, l9, l10, Dag.off hL, h12] at hS
            obtain ⟨b1, hv10, hK1⟩ := hS.lit rfl rfl
            obtain ⟨ga, gc, f5, _⟩ := LksAt.own (hS.r5 rfl rfl)
            obtain ⟨ra, rc, f8, _⟩ := LksAt.own (hS.r8 rfl rfl)
            have ho := ownsRow_below HW.out.1.tab (hS.pre rfl)
            rw [hTl] at ho
            refine wp_append_lies wx _ _ 64 rfl w.heap.size 134 i0 _ 3 56 Tryz.underlying64 hi0 hz0 hz1 hz2 rfl (by decide) (.slice ao2 k cp2) k (LkM.liVals (t.take k) v) e12 ho ⟨b1, 0, none⟩ 1 1 [.int .i64 x.item, vals 5, vals 8] (e22.trans hv10) rfl (World.news_of_block (cs := #[.int .i64 x.item, vals 5, vals 8]) (t := 134) (fr := (0, 0)) hK1) (by rw [f5, f8]; simp [Value.oneCell']) (by omega) (by unfold maxLen; omega) (by omega) (Nat.le_trans HW.out.2.1.size (hS.pre rfl).size) _ rfl ?_
            intro g gc2 w'' hown hgrow hatg hltg
            refine ⟨_, rfl, hkeep 11 _ (Or.inr (by rw [HPV.out]; rfl)) hL, ?_⟩
            rw [Dag.on hL]
            simp only [getD_set_ne false (show 11 ≠ 5 by decide), getD_set_ne false (show 11 ≠ 8 by decide), getD_set_ne false (show 11 ≠ 9 by decide), getD_set_ne false (show 11 ≠ 10 by decide), getD_set_ne false (show 11 ≠ 12 by decide), Dag.turn_same, Dag.turn_other vals (i := 11) (j := 5) _ (by decide), Dag.turn_other vals (i := 11) (j := 8) _ (by decide), Dag.turn_other vals (i := 11) (j := 9) _ (by decide), Dag.turn_other vals (i := 11) (j := 10) _ (by decide), Dag.turn_other vals (i := 11) (j := 12) _ (by decide)]
            rw [l5, l8, l9, l10, h12]
            exact hS.app HW.out.1 HW.out.2.1.size (by rw [hTl]; exact hown) hgrow
          | 12, _ =>
            injection ho with ho
            subst ho
            have e23 : b.eval (.tmp 23) = vals 11 := hat.new 11 _ 23 (haft ⟨11, .data⟩ (by simp) rfl) rfl rfl
            have l11 : Lf.getD 11 false = true := haft ⟨11, .data⟩ (by simp) rfl
            have l10 : Lf.getD 10 false = true := hat.closed 11 _ l11 rfl ⟨10, .data⟩ (by simp) rfl
            have l9 : Lf.getD 9 false = true := hat.closed 10 _ l10 rfl ⟨9, .data⟩ (by simp) rfl
            have l5 : Lf.getD 5 false = true := hat.closed 9 _ l9 rfl ⟨5, .data⟩ (by simp) rfl
            have l8 : Lf.getD 8 false = true := hat.closed 9 _ l9 rfl ⟨8, .data⟩ (by simp) rfl
            rw [l5, l8, l9, l10, l11, Dag.off hL] at hS
            refine Dag.yields (w' := wx) (vals 11) ?_ ⟨_, rfl, hkeep 12 _ (Or.inr (by rw [HPV.out]; rfl)) hL, ?_⟩
            · clear hP hS hat haft hkeep hL
              generalize b.eval = ρ at *
              go_simp
            rw [Dag.on hL]
            simp only [getD_set_ne false (show 12 ≠ 5 by decide), getD_set_ne false (show 12 ≠ 8 by decide), getD_set_ne false (show 12 ≠ 9 by decide), getD_set_ne false (show 12 ≠ 10 by decide), getD_set_ne false (show 12 ≠ 11 by decide), Dag.turn_same, Dag.turn_other vals (i := 12) (j := 5) _ (by decide), Dag.turn_other vals (i := 12) (j := 8) _ (by decide), Dag.turn_other vals (i := 12) (j := 9) _ (by decide), Dag.turn_other vals (i := 12) (j := 10) _ (by decide), Dag.turn_other vals (i := 12) (j := 11) _ (by decide)]
            rw [l5, l8, l9, l10, l11]
            exact hS.assign
          | i + 13, h => exact absurd h (by simp)
        · intro Lf vals wx hall hR
          obtain ⟨hP, hS⟩ := hR
          simp only [hall 5 (by simp), hall 8 (by simp), hall 9 (by simp), hall 10 (by simp), hall 11 (by simp), hall 12 (by simp)] at hS
          obtain ⟨hown, hbw⟩ := hS.fin rfl
          have hv12 : vals 12 = vals 11 := hS.asg rfl
          obtain ⟨ao3, cp3, hv, _⟩ := hown.in_ (by rw [List.length_append, hTl]; simp; omega)
          rw [List.length_append, hTl, List.length_singleton] at hv
          rw [hv] at hown
          exact ⟨vals, rfl, ao3, cp3, _, by rw [hv12, hv], ⟨by rw [HSn.out]; exact hown, HW.out.2.1.trans hbw⟩⟩
      · rintro vals wx ⟨ao3, cp3, v', hv12, HX⟩
        simp only [Dag.all, List.size_toArray, List.length_cons, List.length_nil, Nat.reduceAdd, Act.put, List.getElem?_toArray, List.getElem?_cons_zero, List.getElem?_cons_succ, Option.bind_some, List.setIfInBounds_toArray, List.set_cons_zero, List.set_cons_succ]
        rw [hv12]
        clear hv12
        go_wp2_with fail
        go_roundw
        case rel => exact ⟨k + 1, v', ao3, cp3, by omega, by go_num, rfl, HX⟩
        case measure => simp [RowKit.intOf]; omega
    · obtain rfl : k = N := by omega
      have HT : Box (LkM.OwnT wr w.heap.size (.slice ao2 k cp2) t v ∧ Below w.heap.size w wr) := ⟨by
        have h1 := HR.out
        rw [List.take_of_length_le (by rw [HN.out]; exact Nat.le_refl _)] at h1
        exact h1⟩
      have d0 : decide (k < k) = false := by simp
      go_wp2_with fail
      go_ret
      exact ⟨_, v, rfl, HT.out.1, HT.out.2⟩
end Go.Proofs.YtnnkejolfhhmlaaGreat
