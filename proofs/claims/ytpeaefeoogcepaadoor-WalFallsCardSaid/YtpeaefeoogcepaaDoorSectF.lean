/- The disk's Flush. -/
import Derived.Test.YtpeaefeoogcepaaDoorSectW
namespace Go.Proofs.YtpeaefeoogcepaaDoor
open Go.RowKit Go.Lib

/-- copy over the whole of a row of the call's own: what else stands stays. -/
theorem step_copy_grown {P : Program} {ops : Array Oper} {o : Oper} {a : Act} {w : World} {K : Act → World → Prop} {Q : Exit → Act → World → Prop} {E : Prop} (hgd : o.guard = none) (d s : Operand) (dT sT : TypeId)
    (ho : o.op = .call { callee := .builtin .copy, args := #[d, s], argTypes := #[dT, sT] }) (elem : TypeId) (hu : P.underlying dT = some (.slice elem)) (hsz : (P.info? elem).map (·.size) = some 1)
    (g ge n c1 c2 : Nat) (hd : a.eval d = .slice (some ⟨g, 0, none⟩) n c1) (hs : a.eval s = .slice (some ⟨ge, 0, none⟩) n c2)
    (base : Nat) (t : TypeId) (cs old : List Value) (hown : w.ownsRow base t 1 (.slice (some ⟨g, 0, none⟩) n c1) n old) (hl : cs.length = n)
    (hsrc : ∀ j v, cs[j]? = some v → w.cell? ⟨ge, j, none⟩ = some v) (h1 : ∀ v ∈ cs, v.oneCell' = true)
    (h : ∀ w', w'.ownsRow base t 1 (.slice (some ⟨g, 0, none⟩) n c1) n cs → w.grownBy w' (some g) → K (a.put o.dst (goInt n)) w') :
    if Region.wanted o (yielded ops a.tmps) = true then Oper.wp P o a w K Q else E := by
  have hw : Region.wanted o (yielded ops a.tmps) = true := by simp [Region.wanted, hgd]
  rw [if_pos hw]
  rcases hown.2 with ⟨h3, _⟩ | ⟨g', cap, cur, h3, hb, hg, hnc, hm, hsz2, htk⟩
  · cases h3
  simp only [Value.slice.injEq, Option.some.injEq, Addr.mk.injEq, and_true, true_and] at h3
  obtain ⟨rfl, rfl⟩ := h3
  have hrun := run_copy_row (P := P) w dT sT o.type elem g 0 n c1 ⟨ge, 0, none⟩ n c2 cur t cs hu hsz hg (by rw [hl]; simp) (fun j v hv => by rw [Addr.add_lit, Nat.zero_add]; exact hsrc j v hv) (by omega) h1
  unfold Oper.wp
  simp [execOp, ho, resolve, invoke, builtin, hd, hs, hrun, Result.andThen]
  rw [hl]
  refine h _ ⟨by omega, Or.inr ⟨g, c1, _, rfl, hb, setRow_heap w g cur _ t _ hg, hnc, hm, ?_, ?_⟩⟩ ⟨rfl, rfl, rfl, by simp [World.setRow], fun k hk hne => setRow_other _ _ _ _ (fun e => hne (by rw [e]))⟩
  · simp; omega
  · show List.take (n * 1) (cs ++ _) = cs
    rw [Nat.mul_one, ← hl]; simp

theorem SectM.At.drew {w : World} {base D : Nat} {vs ve vl : Value} {d : DiskM} (h : SectM.At w base D vs ve vl d) : SectM.At w.drew base D vs ve vl d :=
  ⟨h.blk.drew, h.lt, h.safe.drew, h.seen.drew, h.late.drew, h.apart, h.left⟩
section
variable {w w' : World} {base D gs ge n c1 c2 : Nat} {vl : Value} {d : DiskM}
/-- The row of what is safe has been laid anew. -/
theorem SectM.At.copied (h : SectM.At w base D (.slice (some ⟨gs, 0, none⟩) n c1) (.slice (some ⟨ge, 0, none⟩) n c2) vl d) (hn : d.seen.length = n)
    (ho : w'.ownsRow base 9 1 (.slice (some ⟨gs, 0, none⟩) n c1) n (strVals d.seen)) (hg : w.grownBy w' (some gs)) :
    SectM.At w' base D (.slice (some ⟨gs, 0, none⟩) n c1) (.slice (some ⟨ge, 0, none⟩) n c2) vl { d with safe := d.seen } := by
  subst hn
  have hle : vl.ownBlock ≠ some gs := by
    intro hb
    rcases h.late.2 with ⟨rfl, _⟩ | ⟨g, cap, cur, rfl, _, hg1, _⟩
    · simp [Value.ownBlock] at hb
    · simp [Value.ownBlock] at hb
      subst hb
      rcases h.safe.2 with ⟨h3, _⟩ | ⟨g', cap', cur', h3, _, hg2, _⟩
      · cases h3
      · simp only [Value.slice.injEq, Option.some.injEq, Addr.mk.injEq, and_true] at h3
        obtain ⟨rfl, _⟩ := h3
        rw [hg1] at hg2
        simp at hg2
  refine ⟨h.blk.grown hg (fun e => ?_), h.lt, ho, h.seen.kept hg (Or.inr (fun e => h.apart gs rfl e)), h.late.kept hg (Or.inr hle), h.apart, h.left⟩
  have := h.blk.ne_own h.safe (by decide)
  exact this e
/-- The list of what is not safe is dropped. -/
theorem SectM.At.setNil {vs ve : Value} (h : SectM.At w base D vs ve vl d) : SectM.At (w.setCell ⟨D, 2, none⟩ (.slice none 0 0)) base D vs ve (.slice none 0 0) { d with late := [] } := by
  have hne : ∀ {e size n : Nat} {v : Value} {xs : List Value}, w.ownsRow base e size v n xs → e ≠ 59 → (w.setCell ⟨D, 2, none⟩ (.slice none 0 0)).ownsRow base e size v n xs := fun ho he => ownsRow_setCell_other ho (h.blk.ne_own ho (Ne.symm he)) _
  exact ⟨h.blk.set 2 _, h.lt, hne h.safe (by decide), hne h.seen (by decide), World.ownsRow_nil _ _ _ _, h.apart, h.left⟩
end
/-- A disk moved on. -/
structure SectM.Mv (w : World) (base D : Nat) (vs ve vl : Value) (d' : DiskM) (vl' : Value) (w' : World) : Prop where
  at_ : SectM.At w' base D vs ve vl' d'
  kept : KeptS (SectM.Mine D vs ve vl) w w'
  own : ∀ b, vl'.ownBlock = some b → w.heap.size ≤ b ∨ vl.ownBlock = some b
def SectM.Moved (w : World) (base D : Nat) (vs ve vl : Value) (d' : DiskM) (w' : World) : Prop := ∃ vl', SectM.Mv w base D vs ve vl d' vl' w'
theorem SectM.Mv.refl {w : World} {base D : Nat} {vs ve vl : Value} {d : DiskM} (h : SectM.At w base D vs ve vl d) : SectM.Mv w base D vs ve vl d vl w := ⟨h, KeptS.refl _ _, fun _ h => Or.inr h⟩
theorem SectM.Mv.trans {w w1 w2 : World} {base D : Nat} {vs ve vl vl1 vl2 : Value} {d1 d2 : DiskM} (h : SectM.Mv w base D vs ve vl d1 vl1 w1) (k : SectM.Mv w1 base D vs ve vl1 d2 vl2 w2) : SectM.Mv w base D vs ve vl d2 vl2 w2 := by
  refine ⟨k.at_, h.kept.trans k.kept (fun b hb hm => ?_), fun b hb => ?_⟩
  · rcases hm with hm | hm | hm | hm
    · exact Or.inl hm
    · exact Or.inr (Or.inl hm)
    · exact Or.inr (Or.inr (Or.inl hm))
    · rcases h.own b hm with h1 | h1
      · omega
      · exact Or.inr (Or.inr (Or.inr h1))
  · rcases k.own b hb with h1 | h1
    · exact Or.inl (Nat.le_trans h.kept.size h1)
    · exact h.own b h1
theorem SectM.At.rowS {w : World} {base D : Nat} {vs ve vl : Value} {d : DiskM} (h : SectM.At w base D vs ve vl d) (h1 : 1 ≤ d.safe.length) : ∃ gs cs, vs = .slice (some ⟨gs, 0, none⟩) d.safe.length cs ∧ d.safe.length ≤ cs := by
  obtain ⟨gs, cs, rfl, _, _, hcs⟩ := ownsRow_shape h.safe (by rintro rfl; rcases h.safe.2 with ⟨_, h3⟩ | ⟨_, _, _, h3, _⟩ <;> first | omega | cases h3)
  exact ⟨gs, cs, rfl, hcs⟩
theorem SectM.At.rowE {w : World} {base D : Nat} {vs ve vl : Value} {d : DiskM} (h : SectM.At w base D vs ve vl d) (h1 : 1 ≤ d.seen.length) : ∃ ge ce, ve = .slice (some ⟨ge, 0, none⟩) d.seen.length ce ∧ d.seen.length ≤ ce := by
  obtain ⟨gs, cs, rfl, _, _, hcs⟩ := ownsRow_shape h.seen (by rintro rfl; rcases h.seen.2 with ⟨_, h3⟩ | ⟨_, _, _, h3, _⟩ <;> first | omega | cases h3)
  exact ⟨gs, cs, rfl, hcs⟩
theorem SectM.burn_len (d : DiskM) : (SectM.burn d).safe = d.safe ∧ (SectM.burn d).seen = d.seen ∧ (SectM.burn d).late = d.late := by
  unfold SectM.burn
  split
  · exact SectM.burnt_eqs d
  · exact ⟨rfl, rfl, rfl⟩
theorem Tryd.infoStr : (Tryd.prog.info? 9).map (·.size) = some 1 := by kernel_rfl

set_option maxRecDepth 20000 in
set_option maxHeartbeats 4000000 in
theorem sectFlush_any (w : World) (base D : Nat) (vs ve vl : Value) (d : DiskM) (h : SectM.At w base D vs ve vl d) (hn : d.seen.length = d.safe.length) (h1 : 1 ≤ d.safe.length) (h2 : d.safe.length ≤ 256) :
    Calls Tryd.prog 24 #[.pointer (some ⟨D, 0, none⟩)] w fun e w' => e = .returned (.int .i64 (SectM.flushed d)) ∧ SectM.Moved w base D vs ve vl (SectM.flush d) w' := by
  obtain ⟨gs, cs, rfl, hcs⟩ := h.rowS h1
  obtain ⟨ge, ce, rfl, hce⟩ := h.rowE (by omega)
  have HCall := box (sectBurn_any w base D _ _ vl d h)
  have HFl := box (show SectM.flush d = if SectM.flushed d = 0 then { SectM.burnt d with safe := d.seen, late := [] } else d from rfl)
  have HB := box (show SectM.burn d = if SectM.flushed d = 0 then SectM.burnt d else d from rfl)
  obtain ⟨N, HN⟩ : ∃ N, Box (d.safe.length = N) := ⟨_, ⟨rfl⟩⟩
  have HN2 : Box (d.seen.length = N) := ⟨hn.trans HN.out⟩
  have HBl := box (SectM.burn_len d)
  rw [HN2.out] at hce HCall ⊢
  rw [HN.out] at hcs h1 h2 HCall ⊢
  obtain ⟨c, HC⟩ : ∃ c, Box (SectM.flushed d = c) := ⟨_, ⟨rfl⟩⟩
  rw [HC.out] at HCall HFl HB ⊢
  clear h hn
  go_enter Tryd.func24, Tryd.ntmps24
  go_wp2_with fail
  refine HCall.out.mono ?_
  rintro e w1 ⟨rfl, hA, hk⟩
  have HA := box hA; have HK := box hk
  clear hA hk HCall
  cases b1 : (c == 0) with
  | false =>
    have b2 : (c != 0) = true := by simpa using b1
    have b3 : ¬ c = 0 := by simpa using b1
    have HE : Box (SectM.flush d = SectM.burn d) := ⟨by rw [HFl.out, HB.out, if_neg b3, if_neg b3]⟩
    clear b3
    go_wp2_with fail
    go_ret
    exact ⟨rfl, vl, by rw [HE.out]; exact HA.out, HK.out, fun _ h => Or.inr h⟩
  | true =>
    obtain rfl : c = 0 := by simpa using b1
    have y0 := HA.out.blk.cell (i := 0) rfl
    have y1 := HA.out.blk.cell (i := 1) rfl
    have HSeen : Box ((SectM.burn d).seen.length = N) := ⟨by rw [HBl.out.2.1]; exact HN2.out⟩
    have HOwn := box HA.out.safe
    rw [HBl.out.1, HN.out] at HOwn
    have HCell : Box (∀ j v, (strVals (SectM.burn d).seen)[j]? = some v → w1.cell? ⟨ge, j, none⟩ = some v) := ⟨fun j v hv => by
      have := HA.out.seen.cells (g := ge) rfl j v hv
      rwa [Addr.add_lit, Nat.zero_add] at this⟩
    have HL : Box ((strVals (SectM.burn d).seen).length = N) := ⟨(strVals_length _).trans HSeen.out⟩
    have HE : Box (SectM.flush d = { SectM.burn d with safe := (SectM.burn d).seen, late := [] }) := ⟨by rw [HFl.out, if_pos rfl, HBl.out.2.1, HB.out, if_pos rfl]⟩
    go_wp2_with fail
    go_region_law ((refine step_copy_grown rfl (.tmp 12) (.tmp 16) 22 22 rfl 9 Tryd.underlying22 Tryd.infoStr gs ge N cs ce (by simp [Act.eval]) (by simp [Act.eval]) base 9 _ _ (by first | exact HOwn.out | exact HOwn.out.drew) HL.out (by first | exact HCell.out) (strVals_oneCell _) ?_; intro w2 hown hgr; have HW2 := box (And.intro hown hgr); have HA2 := box (HA.out.drew.copied HSeen.out hown hgr); have z2 := HA2.out.blk.frozen 2; have x2 := HA2.out.blk.cell (i := 2) rfl; clear hown hgr))
    all_goals
      go_wp2_with fail
      go_ret
      refine ⟨rfl, .slice none 0 0, ?_, ?_, fun _ h => by cases h⟩
      · rw [HE.out]; exact HA2.out.setNil
      · exact ((HK.out.drew.grown HW2.out.2 (fun b hb => Or.inl (Or.inr (Or.inl hb)))).set (Or.inl (Or.inl rfl)) _ _)
end Go.Proofs.YtpeaefeoogcepaaDoor
