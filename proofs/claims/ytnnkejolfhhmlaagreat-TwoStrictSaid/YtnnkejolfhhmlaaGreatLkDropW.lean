/- lock.Drop: what it computes. -/
import Derived.Test.YtnnkejolfhhmlaaGreatLkDropS
import Derived.Test.YtnnkejolfhhmlaaGreatLkCopy
import Derived.Deep.LoopGhost
import Derived.Test.YtnnkejolfhhmlaaGreatPutR
import Derived.Deep.AppendLies
namespace Go.Proofs.YtnnkejolfhhmlaaGreat
open Go.RowKit Go.Lib

theorem Tryz.infoIntD : (Tryz.prog.info? 3).map (fun i => (i.zero, i.size, i.bytes)) = some (some (.int .i64 0), 1, 8) := by kernel_rfl
theorem LkM.DelS.drew {W0 W : World} {B Tb X : Nat} {tx it : Int} {h0 q0 v3 v7 : Value} {held queue : List LkM} {b3 b7 b9 b11 : Bool} (h : LkM.DelS W0 B Tb X tx it h0 q0 held queue b3 b7 b9 b11 v3 v7 W) : LkM.DelS W0 B Tb X tx it h0 q0 held queue b3 b7 b9 b11 v3 v7 W.drew :=
  ⟨h.xeq, h.hq, h.hX, h.hB, h.t0, h.box, h.held0, h.held1, h.que0, h.que1, h.frm, h.below.drew⟩
theorem LkM.without_len (l : List LkM) (tx : Int) : (LkM.without l tx).length ≤ l.length := List.length_filter_le _ _
theorem LkM.without_okl {l : List LkM} (h : LkM.Okl l) (tx : Int) : LkM.Okl (LkM.without l tx) :=
  ⟨fun x hx => h.dom x (LkM.without_mem.1 hx).1, List.Nodup.sublist (List.Sublist.map _ List.filter_sublist) h.once⟩
theorem LkM.RowIn.cells {W : World} {lo qb off n c : Nat} {a : LkM} {r : List LkM} (h : LkM.RowIn W lo (.slice (some ⟨qb, off, none⟩) n c) (a :: r)) : qb < W.heap.size ∧ W.cell? ⟨qb, off, none⟩ = some (.int .i64 a.tx) ∧ W.cell? ⟨qb, off + 1, none⟩ = some (.int .i64 a.mode) ∧ (∀ c', r.length ≤ c' → LkM.RowIn W lo (.slice (some ⟨qb, off + 2, none⟩) r.length c') r) ∧ r.length + 1 ≤ c := by
  obtain ⟨ad, c', e, hin, hc, _⟩ := h
  injection e with e1 e2 e3
  subst e1 e3
  obtain ⟨b, o, e, hlo, hlt, hrow⟩ := hin.resolve_left (by simp)
  injection e with e
  injection e with e1 e2 _
  subst e1 e2
  obtain ⟨c0, c1⟩ := hrow 0 (by simp)
  simp only [Nat.zero_mul, Nat.add_zero, List.getElem_cons_zero] at c0 c1
  refine ⟨hlt, c0, c1, fun c' hc' => ⟨_, c', rfl, Or.inr ⟨qb, off + 2, rfl, hlo, hlt, fun k hk => ?_⟩, hc', fun h => by cases h⟩, by simpa using hc⟩
  have := hrow (k + 1) (by simp; omega)
  rw [List.getElem_cons_succ, show off + (k + 1) * 2 = off + 2 + k * 2 by omega] at this
  exact this
/-- Is the queue's first served? -/
def LkM.goes (hl ql : List LkM) : Bool := match ql with | [] => false | a :: _ => LkM.can hl a

set_option maxRecDepth 20000 in
set_option maxHeartbeats 32000000 in
theorem drop_any (t : List LiM) (ao : Option Addr) (cap lo : Nat) (tx : Int) (w : World) (h : LisIn w lo ao t) (hs : LkM.Small t) :
    Calls Tryz.prog 64 #[.slice ao t.length cap, .int .i64 tx] w (LkM.DropPost t tx w) := by
  have H := box h; have HSm := box hs
  clear h hs
  obtain ⟨i0, hi0, hz0, hz1, hz2⟩ := info_parts Tryz.infoIntD
  obtain ⟨j0, hj0, hy0, hy1, hy2⟩ := info_parts Tryz.infoLi
  obtain ⟨Post, HPost⟩ : ∃ P, Box (LkM.DropPost t tx w = P) := ⟨_, ⟨rfl⟩⟩
  rw [HPost.out]
  have HErr : Box (∀ c : Int, LkM.dropE t tx = c → c ≠ 0 → ∀ w', Below w.heap.size w w' → Post (.returned (.tuple #[.slice none 0 0, .slice none 0 0, .int .i64 c])) w') := ⟨fun c h1 h2 w' hb => by
    rw [← HPost.out]
    exact ⟨hb, Or.inl ⟨by rw [h1]; exact h2, by rw [h1]⟩⟩⟩
  have HEd : Box (LkM.dropE t tx = if LkM.check t ≠ 0 then LkM.check t else if tx < 0 ∨ 12 ≤ tx then 1 else 0) := ⟨rfl⟩
  obtain ⟨N, HN⟩ : ∃ N, Box (t.length = N) := ⟨_, ⟨rfl⟩⟩
  obtain ⟨Tb, HTb⟩ : ∃ x, Box (w.heap.size = x) := ⟨_, ⟨rfl⟩⟩
  have HS1 : Box (Below w.heap.size w (w.alloc (.cells #[.int .i64 tx] 3)) ∧ Blk (w.alloc (.cells #[.int .i64 tx] 3)) w.heap.size 3 [.int .i64 tx]) := ⟨(Below.refl _ _).alloc (Nat.le_refl _) _, Blk.new _ _ _⟩
  have HCk := box (lockCheck_any t ao cap lo (w.alloc (.cells #[.int .i64 tx] 3)) (H.out.below HS1.out.1 (Nat.le_refl _)) HSm.out)
  obtain ⟨W1, HW1⟩ : ∃ W, Box (w.alloc (.cells #[.int .i64 tx] 3) = W) := ⟨_, ⟨rfl⟩⟩
  rw [HTb.out, HW1.out] at HS1
  rw [HW1.out, HN.out] at HCk
  rw [HTb.out] at HErr
  rw [HN.out]
  go_enter Tryz.func64, Tryz.ntmps64
  go_wp2_with fail
  rw [HW1.out, HTb.out]
  refine HCk.out.mono ?_
  rintro e W2 ⟨rfl, hb2⟩
  have HS2 : Box (Below Tb w W2 ∧ Blk W2 Tb 3 [.int .i64 tx]) := ⟨HS1.out.1.trans (hb2.mono (Nat.le_of_lt HS1.out.2.lt)), HS1.out.2.after hb2⟩
  clear hb2 HCk HS1 HW1
  obtain ⟨c, HC⟩ : ∃ c, Box (LkM.check t = c) := ⟨_, ⟨rfl⟩⟩
  rw [HC.out] at HEd ⊢
  by_cases h0 : c = 0
  case neg =>
    have g1 : (c == 0) = false := by simp [h0]
    have g2 : (c != 0) = true := by simp [h0]
    have HE := box (HErr.out c (by rw [HEd.out, if_pos h0]) h0 _ HS2.out.1)
    clear h0
    go_wp2_with fail
    exact HE.out
  subst h0
  have HGd := box (LkM.check_iff.1 HC.out)
  have hN20 : N ≤ 20 := by have := HGd.out.len; have := HN.out; omega
  have t0 := HS2.out.2.cell (i := 0) rfl
  have hTs := HS2.out.2.lt
  by_cases hbad : tx < 0 ∨ 12 ≤ tx
  · have HE := box (HErr.out 1 (by rw [HEd.out, if_neg (by simp), if_pos hbad]) (by simp) _ HS2.out.1)
    clear HEd
    by_cases e1 : tx < 0
    · have d1 : decide (tx < 0) = true := decide_eq_true e1
      clear e1 hbad
      go_wp2_with fail
      exact HE.out
    have d1 : decide (tx < 0) = false := decide_eq_false e1
    have d2 : decide ((12 : Int) ≤ tx) = true := decide_eq_true (by omega)
    clear e1 hbad
    go_wp2_with fail
    exact HE.out
  rw [if_neg (by simp), if_neg hbad] at HEd
  have d1 : decide (tx < 0) = false := decide_eq_false (by omega)
  have d2 : decide ((12 : Int) ≤ tx) = false := decide_eq_false (by omega)
  have HDm : Box (0 ≤ tx ∧ tx < 12) := ⟨by omega⟩
  have HCp := box (copied_any t ao cap lo W2 (H.out.below HS2.out.1 (by rw [HTb.out]; exact Nat.le_refl _)) (by have := HN.out; omega) (fun x hx => ⟨LkM.okl_len (HGd.out.ok x hx).held, LkM.okl_len (HGd.out.ok x hx).queue⟩))
  rw [HN.out] at HCp
  clear hbad HErr
  go_wp2_with fail
  refine HCp.out.mono ?_
  rintro e W3 ⟨tv, v, rfl, hOT, hb3⟩
  obtain ⟨B, HBe⟩ : ∃ x, Box (W2.heap.size = x) := ⟨_, ⟨rfl⟩⟩
  rw [HBe.out] at hOT hb3
  have hTB : Tb < B := by have := HBe.out; omega
  obtain ⟨ta, tc, htv, _, hcap, _⟩ := hOT.in_ (by have := HN.out; omega)
  subst htv
  obtain ⟨RES, HRES⟩ : ∃ x, Box (LkM.dropGo tx t [] [] = x) := ⟨_, ⟨rfl⟩⟩
  have HD3 : Box (LkM.DropS B Tb tx (.slice ta t.length tc) t v 0 [] (.slice none 0 0) (fun _ => .slice none 0 0) [] (.slice none 0 0) W3 ∧ Below Tb w W3) := ⟨LkM.DropS.start hOT (by have := HN.out; omega) (by have := hb3.size; have := HBe.out; omega) hTB (HS2.out.2.below hb3 hTB), HS2.out.1.trans (hb3.mono (by omega))⟩
  rw [HN.out] at hcap HD3 ⊢
  clear hOT hb3 t0 hTs d1 d2 HCp HS2 HBe
  go_wp2_with fail
  go_loopw [9, 10, 28] (fun t9 t10 t28 wr => ∃ (k : Nat) (os : List LiM) (u : Nat → Value) (gs : List Int) (oa : Option Addr) (oL oc : Nat) (ga : Option Addr) (gL gc : Nat), k ≤ N ∧ t28 = .int .i64 (k : Int) ∧ t9 = .slice oa oL oc ∧ t10 = .slice ga gL gc ∧ oL ≤ k ∧ gL ≤ 12 * k ∧
    Box (os.length = oL ∧ gs.length = gL ∧ LkM.dropGo tx (t.drop k) os gs = RES ∧ LkM.DropS B Tb tx (.slice ta N tc) t v k os (.slice oa oL oc) u gs (.slice ga gL gc) wr ∧ Below Tb w wr)) (fun _ _ t28 _ => N - (RowKit.intOf t28).toNat)
  case atStart => exact ⟨0, [], _, [], none, 0, 0, none, 0, 0, Nat.zero_le _, rfl, rfl, rfl, by omega, by omega, ⟨rfl, rfl, HRES.out, HD3.out⟩⟩
  case round =>
    rename World => V4
    obtain ⟨k, os, u, gs, oa, oL, oc, ga, gL, gc, hk, rfl, rfl, rfl, hoL, hgL, HR⟩ := hrel
    clear HD3
    by_cases hlt : k < N
    · have hkl : k < t.length := by rw [HN.out]; exact hlt
      obtain ⟨hOl, hGl, hRs, hDS, hbw⟩ := HR.out
      obtain ⟨g, ha, hc, qa, qc, hg, hgs, f1, f2, c0, c1, c2⟩ := hDS.cells hkl
      obtain ⟨g', tc', hform, _⟩ := hDS.tab.form (by omega)
      injection hform with hform e8 e9
      clear e8 e9
      subst hform
      have hg : g' = g := Option.some.inj hg
      subst hg
      have hst := hDS.head hkl
      have hbox := hDS.box hkl [.int .i64 t[k].item, v (2 * k), v (2 * k + 1)] rfl
      have hGv := hDS.given
      have HOkx := box (HGd.out.ok _ (List.getElem_mem hkl))
      have HDr : Box (t.drop k = t[k] :: t.drop (k + 1)) := ⟨List.drop_eq_getElem_cons hkl⟩
      have HSk := box (fun (it : Int) (held queue : List LkM) (hv qv : Value) (gs' : List Int) (g' : Value) (W : World) (hM : LkM.DropM V4 B V4.heap.size it (v (2 * k)) (v (2 * k + 1)) (.slice ga gL gc) held queue hv qv gs' g' W) => And.intro (hDS.skip hkl hM) (hDS.may hkl hM))
      rw [f1, f2] at hst hbox HSk
      generalize t[k] = x at *
      obtain ⟨it, held, queue⟩ := x
      dsimp only at f1 f2 c0 c1 c2 hbox
      have hHl : held.length ≤ 12 := LkM.okl_len HOkx.out.held
      have hQl : queue.length ≤ 12 := LkM.okl_len HOkx.out.queue
      have HHQ : Box ((LkM.without queue tx).length ≤ 12) := ⟨Nat.le_trans (LkM.without_len _ _) hQl⟩
      obtain ⟨HL, HHL⟩ : ∃ x, Box (held.length = x) := ⟨_, ⟨rfl⟩⟩
      obtain ⟨QL, HQL⟩ : ∃ x, Box (queue.length = x) := ⟨_, ⟨rfl⟩⟩
      have HW3 : Box (∀ wx, wx.ownsRow B 137 2 (.slice ha held.length hc) held.length (lkVals held) → Blk wx Tb 3 [.int .i64 tx] → Calls Tryz.prog 98 #[.slice ha held.length hc, .func (.func 97) #[] #[.pointer (some ⟨Tb, 0, none⟩)]] wx (LkM.WithoutP B (.slice ha held.length hc) held tx wx)) := ⟨fun wx h1 h2 => without_any B held _ tx Tb wx h1 h2 (by omega)⟩
      have HW7 : Box (∀ wx, wx.ownsRow B 137 2 (.slice qa queue.length qc) queue.length (lkVals queue) → Blk wx Tb 3 [.int .i64 tx] → Calls Tryz.prog 98 #[.slice qa queue.length qc, .func (.func 97) #[] #[.pointer (some ⟨Tb, 0, none⟩)]] wx (LkM.WithoutP B (.slice qa queue.length qc) queue tx wx)) := ⟨fun wx h1 h2 => without_any B queue _ tx Tb wx h1 h2 (by omega)⟩
      rw [HHL.out] at hst hbox HSk HW3 c1
      rw [HQL.out] at hst hbox HSk HW7 c2
      have HSt := box hst; have HBx := box hbox; have HGv := box hGv
      clear hst hbox hGv hDS hOl hGl hRs hbw f1 f2 hHl hQl
      obtain ⟨X, HX⟩ : ∃ x, Box (V4.heap.size = x) := ⟨_, ⟨rfl⟩⟩
      obtain ⟨W5, HW5⟩ : ∃ W, Box (V4.alloc (.cells #[.int .i64 it, .slice ha HL hc, .slice qa QL qc] 134) = W) := ⟨_, ⟨rfl⟩⟩
      have HBx' : Box (LkM.DelS V4 B Tb V4.heap.size tx it (.slice ha HL hc) (.slice qa QL qc) held queue false false false false undef undef (V4.alloc (.cells #[.int .i64 it, .slice ha HL hc, .slice qa QL qc] 134))) := HBx
      rw [HX.out] at HBx' HSt HSk
      rw [HW5.out] at HBx'
      clear HBx
      go_upto_region 12 with (fail)
      rw [HX.out, HW5.out]
      clear c0 c1 c2 HW5
      go_cut [41] (fun _ wx => ∃ v3 v7, Box (LkM.DelS V4 B Tb X tx it (.slice ha HL hc) (.slice qa QL qc) held queue true true true true v3 v7 wx))
      case first =>
        obtain ⟨PV, HPV⟩ : ∃ PV : Nat → Option Value, Box (PV = fun i => ([some (.pointer (some ⟨X, 1, none⟩)), some (.slice ha HL hc), some (.func (.func 97) #[] #[.pointer (some ⟨Tb, 0, none⟩)]), none, some (.pointer (some ⟨X, 2, none⟩)), some (.slice qa QL qc), some (.func (.func 97) #[] #[.pointer (some ⟨Tb, 0, none⟩)]), none, some (.pointer (some ⟨X, 1, none⟩)), none, some (.pointer (some ⟨X, 2, none⟩)), none] : List (Option Value)).getD i none) := ⟨_, ⟨rfl⟩⟩
        refine wp_region_dagv (by kernel_rfl) (fun Lf vals wx => (∀ i v, PV i = some v → Lf.getD i false = true → vals i = v) ∧ LkM.DelS V4 B Tb X tx it (.slice ha HL hc) (.slice qa QL qc) held queue (Lf.getD 3 false) (Lf.getD 7 false) (Lf.getD 9 false) (Lf.getD 11 false) (vals 3) (vals 7) wx) (by kernel_rfl) ?_ ?_ ?_
        · refine ⟨fun i v _ h => absurd h (by simp [Array.getD_eq_getD_getElem?, Array.getElem?_replicate]; try (split <;> simp)), ?_⟩
          simp only [Array.getD_eq_getD_getElem?, Array.getElem?_replicate, List.size_toArray, List.length_cons, List.length_nil, Nat.reduceAdd, Nat.reduceLT, if_true, Option.getD_some]
          exact HBx'.out.drew
        · intro i hi o ho Lf vals b wx hat haft hL hR
          obtain ⟨hP, hS⟩ := hR
          have hco := hat.const
          have hkeep : ∀ i v, (PV i = some v ∨ PV i = none) → Lf.getD i true = false → (∀ j u, PV j = some u → (Lf.setIfInBounds i true).getD j false = true → Dag.turn vals i v j = u) := fun i v hv hL j u hu hj => by
            by_cases e : j = i
            · subst e; rw [Dag.turn_same]; rcases hv with hv | hv <;> rw [hv] at hu <;> simp at hu; exact hu
            · rw [Dag.turn_other _ _ e]; rw [getD_set_ne false (Ne.symm e)] at hj; exact hP j u hu hj
          have r12 : b.eval (.tmp 12) = .pointer (some ⟨X, 0, none⟩) := hat.old 12 (by
            intro j o' hj
            match j with
            | 0 | 1 | 2 | 3 | 4 | 5 | 6 | 7 | 8 | 9 | 10 | 11 => injection hj with hj; subst hj; simp
            | j + 12 => cases hj)
          have r8 : b.eval (.tmp 8) = .func (.func 97) #[] #[.pointer (some ⟨Tb, 0, none⟩)] := hat.old 8 (by
            intro j o' hj
            match j with
            | 0 | 1 | 2 | 3 | 4 | 5 | 6 | 7 | 8 | 9 | 10 | 11 => injection hj with hj; subst hj; simp
            | j + 12 => cases hj)
          have hcx : Lf.getD 9 false = false → wx.cell? ⟨X, 1, none⟩ = some (.slice ha HL hc) := fun h => by
            have hb := hS.box
            rw [h] at hb
            exact hb.cell rfl
          have hcq : Lf.getD 11 false = false → wx.cell? ⟨X, 2, none⟩ = some (.slice qa QL qc) := fun h => by
            have hb := hS.box
            rw [h] at hb
            exact hb.cell rfl
          match i, hi with
          | 0, _ =>
            injection ho with ho
            subst ho
            refine Dag.yields (w' := wx) (.pointer (some ⟨X, 1, none⟩)) ?_ ⟨.pointer (some ⟨X, 1, none⟩), rfl, hkeep 0 _ (Or.inl (by rw [HPV.out]; rfl)) hL, ?_⟩
            · clear hP hS hat haft hkeep hL
              generalize b.eval = ρ at *
              go_simp
            · simp only [getD_set_ne false (show 0 ≠ 3 by decide), getD_set_ne false (show 0 ≠ 7 by decide), getD_set_ne false (show 0 ≠ 9 by decide), getD_set_ne false (show 0 ≠ 11 by decide), Dag.turn_other vals (i := 0) (j := 3) _ (by decide), Dag.turn_other vals (i := 0) (j := 7) _ (by decide)]
              exact hS
          | 1, _ =>
            injection ho with ho
            subst ho
            have e32 : b.eval (.tmp 32) = .pointer (some ⟨X, 1, none⟩) := (hat.new 0 _ 32 (haft ⟨0, .data⟩ (by simp) rfl) rfl rfl).trans (hP 0 _ (by rw [HPV.out]; rfl) (haft ⟨0, .data⟩ (by simp) rfl))
            have h3 : Lf.getD 3 false = false := by
              cases h : Lf.getD 3 false with
              | false => rfl
              | true => have := hat.closed 3 _ h rfl ⟨1, .data⟩ (by simp) rfl; rw [Dag.off hL] at this; cases this
            have h9 : Lf.getD 9 false = false := by
              cases h : Lf.getD 9 false with
              | false => rfl
              | true => have := hat.closed 9 _ h rfl ⟨3, .data⟩ (by simp) rfl; rw [h3] at this; cases this
            have x1 := hcx h9
            refine Dag.yields (w' := wx) (.slice ha HL hc) ?_ ⟨.slice ha HL hc, rfl, hkeep 1 _ (Or.inl (by rw [HPV.out]; rfl)) hL, ?_⟩
            · clear hP hS hat haft hkeep hL hcx hcq
              generalize b.eval = ρ at *
              go_simp
            simp only [getD_set_ne false (show 1 ≠ 3 by decide), getD_set_ne false (show 1 ≠ 7 by decide), getD_set_ne false (show 1 ≠ 9 by decide), getD_set_ne false (show 1 ≠ 11 by decide), Dag.turn_other vals (i := 1) (j := 3) _ (by decide), Dag.turn_other vals (i := 1) (j := 7) _ (by decide)]
            exact hS
          | 2, _ =>
            injection ho with ho
            subst ho
            refine Dag.yields (w' := wx) (.func (.func 97) #[] #[.pointer (some ⟨Tb, 0, none⟩)]) ?_ ⟨.func (.func 97) #[] #[.pointer (some ⟨Tb, 0, none⟩)], rfl, hkeep 2 _ (Or.inl (by rw [HPV.out]; rfl)) hL, ?_⟩
            · clear hP hS hat haft hkeep hL
              generalize b.eval = ρ at *
              go_simp
            · simp only [getD_set_ne false (show 2 ≠ 3 by decide), getD_set_ne false (show 2 ≠ 7 by decide), getD_set_ne false (show 2 ≠ 9 by decide), getD_set_ne false (show 2 ≠ 11 by decide), Dag.turn_other vals (i := 2) (j := 3) _ (by decide), Dag.turn_other vals (i := 2) (j := 7) _ (by decide)]
              exact hS
          | 3, _ =>
            injection ho with ho
            subst ho
            have e33 : b.eval (.tmp 33) = .slice ha HL hc := (hat.new 1 _ 33 (haft ⟨1, .data⟩ (by simp) rfl) rfl rfl).trans (hP 1 _ (by rw [HPV.out]; rfl) (haft ⟨1, .data⟩ (by simp) rfl))
            have e34 : b.eval (.tmp 34) = .func (.func 97) #[] #[.pointer (some ⟨Tb, 0, none⟩)] := (hat.new 2 _ 34 (haft ⟨2, .data⟩ (by simp) rfl) rfl rfl).trans (hP 2 _ (by rw [HPV.out]; rfl) (haft ⟨2, .data⟩ (by simp) rfl))
            have h9 : Lf.getD 9 false = false := by
              cases h : Lf.getD 9 false with
              | false => rfl
              | true => have := hat.closed 9 _ h rfl ⟨3, .data⟩ (by simp) rfl; rw [Dag.off hL] at this; cases this
            rw [Dag.off hL, h9] at hS
            refine Dag.calls (w' := wx) (f := 98) (args := #[.slice ha HL hc, .func (.func 97) #[] #[.pointer (some ⟨Tb, 0, none⟩)]]) ?_ (fun v w'' => v.ownBlock = (.slice ha HL hc : Value).ownBlock ∧ w''.ownsRow B 137 2 v (LkM.without held tx).length (lkVals (LkM.without held tx)) ∧ wx.grownBy w'' (.slice ha HL hc : Value).ownBlock) ?_ ?_
            · have ef : b.eval (.func 98) = .func (.func 98) #[] #[] := rfl
              clear hP hS hat haft hkeep hL hcx hcq
              generalize b.eval = ρ at *
              go_simp
            · refine (HW3.out wx (by have h5 := hS.held0 rfl; rw [HHL.out] at h5; exact h5) hS.t0).mono ?_
              rintro e w'' ⟨v, rfl, h1, h2, h3⟩
              exact ⟨v, rfl, h1, h2, h3⟩
            · rintro u w'' ⟨h1, h2, h3⟩
              refine ⟨u, rfl, hkeep 3 _ (Or.inr (by rw [HPV.out]; rfl)) hL, ?_⟩
              rw [Dag.on hL]
              simp only [getD_set_ne false (show 3 ≠ 7 by decide), getD_set_ne false (show 3 ≠ 9 by decide), getD_set_ne false (show 3 ≠ 11 by decide), Dag.turn_same, Dag.turn_other vals (i := 3) (j := 7) _ (by decide)]
              rw [h9]
              exact hS.call3 h1 h2 h3
          | 4, _ =>
            injection ho with ho
            subst ho
            refine Dag.yields (w' := wx) (.pointer (some ⟨X, 2, none⟩)) ?_ ⟨.pointer (some ⟨X, 2, none⟩), rfl, hkeep 4 _ (Or.inl (by rw [HPV.out]; rfl)) hL, ?_⟩
            · clear hP hS hat haft hkeep hL
              generalize b.eval = ρ at *
              go_simp
            · simp only [getD_set_ne false (show 4 ≠ 3 by decide), getD_set_ne false (show 4 ≠ 7 by decide), getD_set_ne false (show 4 ≠ 9 by decide), getD_set_ne false (show 4 ≠ 11 by decide), Dag.turn_other vals (i := 4) (j := 3) _ (by decide), Dag.turn_other vals (i := 4) (j := 7) _ (by decide)]
              exact hS
          | 5, _ =>
            injection ho with ho
            subst ho
            have e36 : b.eval (.tmp 36) = .pointer (some ⟨X, 2, none⟩) := (hat.new 4 _ 36 (haft ⟨4, .data⟩ (by simp) rfl) rfl rfl).trans (hP 4 _ (by rw [HPV.out]; rfl) (haft ⟨4, .data⟩ (by simp) rfl))
            have h7 : Lf.getD 7 false = false := by
              cases h : Lf.getD 7 false with
              | false => rfl
              | true => have := hat.closed 7 _ h rfl ⟨5, .data⟩ (by simp) rfl; rw [Dag.off hL] at this; cases this
            have h11 : Lf.getD 11 false = false := by
              cases h : Lf.getD 11 false with
              | false => rfl
              | true => have := hat.closed 11 _ h rfl ⟨7, .data⟩ (by simp) rfl; rw [h7] at this; cases this
            have x2 := hcq h11
            refine Dag.yields (w' := wx) (.slice qa QL qc) ?_ ⟨.slice qa QL qc, rfl, hkeep 5 _ (Or.inl (by rw [HPV.out]; rfl)) hL, ?_⟩
            · clear hP hS hat haft hkeep hL hcx hcq
              generalize b.eval = ρ at *
              go_simp
            simp only [getD_set_ne false (show 5 ≠ 3 by decide), getD_set_ne false (show 5 ≠ 7 by decide), getD_set_ne false (show 5 ≠ 9 by decide), getD_set_ne false (show 5 ≠ 11 by decide), Dag.turn_other vals (i := 5) (j := 3) _ (by decide), Dag.turn_other vals (i := 5) (j := 7) _ (by decide)]
            exact hS
          | 6, _ =>
            injection ho with ho
            subst ho
            refine Dag.yields (w' := wx) (.func (.func 97) #[] #[.pointer (some ⟨Tb, 0, none⟩)]) ?_ ⟨.func (.func 97) #[] #[.pointer (some ⟨Tb, 0, none⟩)], rfl, hkeep 6 _ (Or.inl (by rw [HPV.out]; rfl)) hL, ?_⟩
            · clear hP hS hat haft hkeep hL
              generalize b.eval = ρ at *
              go_simp
            · simp only [getD_set_ne false (show 6 ≠ 3 by decide), getD_set_ne false (show 6 ≠ 7 by decide), getD_set_ne false (show 6 ≠ 9 by decide), getD_set_ne false (show 6 ≠ 11 by decide), Dag.turn_other vals (i := 6) (j := 3) _ (by decide), Dag.turn_other vals (i := 6) (j := 7) _ (by decide)]
              exact hS
          | 7, _ =>
            injection ho with ho
            subst ho
            have e37 : b.eval (.tmp 37) = .slice qa QL qc := (hat.new 5 _ 37 (haft ⟨5, .data⟩ (by simp) rfl) rfl rfl).trans (hP 5 _ (by rw [HPV.out]; rfl) (haft ⟨5, .data⟩ (by simp) rfl))
            have e38 : b.eval (.tmp 38) = .func (.func 97) #[] #[.pointer (some ⟨Tb, 0, none⟩)] := (hat.new 6 _ 38 (haft ⟨6, .data⟩ (by simp) rfl) rfl rfl).trans (hP 6 _ (by rw [HPV.out]; rfl) (haft ⟨6, .data⟩ (by simp) rfl))
            have h11 : Lf.getD 11 false = false := by
              cases h : Lf.getD 11 false with
              | false => rfl
              | true => have := hat.closed 11 _ h rfl ⟨7, .data⟩ (by simp) rfl; rw [Dag.off hL] at this; cases this
            rw [Dag.off hL, h11] at hS
            refine Dag.calls (w' := wx) (f := 98) (args := #[.slice qa QL qc, .func (.func 97) #[] #[.pointer (some ⟨Tb, 0, none⟩)]]) ?_ (fun v w'' => v.ownBlock = (.slice qa QL qc : Value).ownBlock ∧ w''.ownsRow B 137 2 v (LkM.without queue tx).length (lkVals (LkM.without queue tx)) ∧ wx.grownBy w'' (.slice qa QL qc : Value).ownBlock) ?_ ?_
            · have ef : b.eval (.func 98) = .func (.func 98) #[] #[] := rfl
              clear hP hS hat haft hkeep hL hcx hcq
              generalize b.eval = ρ at *
              go_simp
            · refine (HW7.out wx (by have h5 := hS.que0 rfl; rw [HQL.out] at h5; exact h5) hS.t0).mono ?_
              rintro e w'' ⟨v, rfl, h1, h2, h3⟩
              exact ⟨v, rfl, h1, h2, h3⟩
            · rintro u w'' ⟨h1, h2, h3⟩
              refine ⟨u, rfl, hkeep 7 _ (Or.inr (by rw [HPV.out]; rfl)) hL, ?_⟩
              rw [Dag.on hL]
              simp only [getD_set_ne false (show 7 ≠ 3 by decide), getD_set_ne false (show 7 ≠ 9 by decide), getD_set_ne false (show 7 ≠ 11 by decide), Dag.turn_same, Dag.turn_other vals (i := 7) (j := 3) _ (by decide)]
              rw [h11]
              exact hS.call7 h1 h2 h3
          | 8, _ =>
            injection ho with ho
            subst ho
            refine Dag.yields (w' := wx) (.pointer (some ⟨X, 1, none⟩)) ?_ ⟨.pointer (some ⟨X, 1, none⟩), rfl, hkeep 8 _ (Or.inl (by rw [HPV.out]; rfl)) hL, ?_⟩
            · clear hP hS hat haft hkeep hL
              generalize b.eval = ρ at *
              go_simp
            · simp only [getD_set_ne false (show 8 ≠ 3 by decide), getD_set_ne false (show 8 ≠ 7 by decide), getD_set_ne false (show 8 ≠ 9 by decide), getD_set_ne false (show 8 ≠ 11 by decide), Dag.turn_other vals (i := 8) (j := 3) _ (by decide), Dag.turn_other vals (i := 8) (j := 7) _ (by decide)]
              exact hS
          | 9, _ =>
            injection ho with ho
            subst ho
            have e40 : b.eval (.tmp 40) = .pointer (some ⟨X, 1, none⟩) := (hat.new 8 _ 40 (haft ⟨8, .data⟩ (by simp) rfl) rfl rfl).trans (hP 8 _ (by rw [HPV.out]; rfl) (haft ⟨8, .data⟩ (by simp) rfl))
            have e35 : b.eval (.tmp 35) = vals 3 := hat.new 3 _ 35 (haft ⟨3, .data⟩ (by simp) rfl) rfl rfl
            have l3 : Lf.getD 3 false = true := haft ⟨3, .data⟩ (by simp) rfl
            rw [l3, Dag.off hL] at hS
            obtain ⟨za, zc, hz⟩ := hS.form3
            have hbx := hS.box
            have xa := hbx.cell (i := 1) rfl
            have xz := hbx.frozen 1
            have xs := hbx.lt
            refine Dag.skips (w' := wx.setCell ⟨X, 1, none⟩ (vals 3)) ?_ ⟨_, rfl, hkeep 9 _ (Or.inr (by rw [HPV.out]; rfl)) hL, ?_⟩
            · clear hP hS hat haft hkeep hL hcx hcq hbx
              rw [hz] at e35 ⊢
              generalize b.eval = ρ at *
              go_simp
            rw [Dag.on hL]
            simp only [getD_set_ne false (show 9 ≠ 3 by decide), getD_set_ne false (show 9 ≠ 7 by decide), getD_set_ne false (show 9 ≠ 11 by decide), Dag.turn_other vals (i := 9) (j := 3) _ (by decide), Dag.turn_other vals (i := 9) (j := 7) _ (by decide)]
            rw [l3]
            exact hS.put9
          | 10, _ =>
            injection ho with ho
            subst ho
            refine Dag.yields (w' := wx) (.pointer (some ⟨X, 2, none⟩)) ?_ ⟨.pointer (some ⟨X, 2, none⟩), rfl, hkeep 10 _ (Or.inl (by rw [HPV.out]; rfl)) hL, ?_⟩
            · clear hP hS hat haft hkeep hL
              generalize b.eval = ρ at *
              go_simp
            · simp only [getD_set_ne false (show 10 ≠ 3 by decide), getD_set_ne false (show 10 ≠ 7 by decide), getD_set_ne false (show 10 ≠ 9 by decide), getD_set_ne false (show 10 ≠ 11 by decide), Dag.turn_other vals (i := 10) (j := 3) _ (by decide), Dag.turn_other vals (i := 10) (j := 7) _ (by decide)]
              exact hS
          | 11, _ =>
            injection ho with ho
            subst ho
            have e41 : b.eval (.tmp 41) = .pointer (some ⟨X, 2, none⟩) := (hat.new 10 _ 41 (haft ⟨10, .data⟩ (by simp) rfl) rfl rfl).trans (hP 10 _ (by rw [HPV.out]; rfl) (haft ⟨10, .data⟩ (by simp) rfl))
            have e39 : b.eval (.tmp 39) = vals 7 := hat.new 7 _ 39 (haft ⟨7, .data⟩ (by simp) rfl) rfl rfl
            have l7 : Lf.getD 7 false = true := haft ⟨7, .data⟩ (by simp) rfl
            rw [l7, Dag.off hL] at hS
            obtain ⟨za, zc, hz⟩ := hS.form7
            have hbx := hS.box
            have xa := hbx.cell (i := 2) rfl
            have xz := hbx.frozen 2
            have xs := hbx.lt
            refine Dag.skips (w' := wx.setCell ⟨X, 2, none⟩ (vals 7)) ?_ ⟨_, rfl, hkeep 11 _ (Or.inr (by rw [HPV.out]; rfl)) hL, ?_⟩
            · clear hP hS hat haft hkeep hL hcx hcq hbx
              rw [hz] at e39 ⊢
              generalize b.eval = ρ at *
              go_simp
            rw [Dag.on hL]
            simp only [getD_set_ne false (show 11 ≠ 3 by decide), getD_set_ne false (show 11 ≠ 7 by decide), getD_set_ne false (show 11 ≠ 9 by decide), Dag.turn_other vals (i := 11) (j := 3) _ (by decide), Dag.turn_other vals (i := 11) (j := 7) _ (by decide)]
            rw [l7]
            exact hS.put11
          | i + 12, h => exact absurd h (by simp)
        · intro Lf vals wx hall hR
          obtain ⟨hP, hS⟩ := hR
          simp only [hall 3 (by simp), hall 7 (by simp), hall 9 (by simp), hall 11 (by simp)] at hS
          have HF := box hS
          simp only [Dag.all, List.size_toArray, List.length_cons, List.length_nil, Nat.reduceAdd, Act.put, List.getElem?_toArray, List.getElem?_cons_zero, List.getElem?_cons_succ, Option.bind_some, List.setIfInBounds_toArray, List.set_cons_zero, List.set_cons_succ]
          clear hP hS hall
          go_wp2_with fail
          go_meet
          exact ⟨_, _, HF⟩
      case rest =>
        obtain ⟨v3, v7, HDl⟩ := hcut
        obtain ⟨V6, hV6⟩ : ∃ x, x = wc := ⟨_, rfl⟩
        rw [← hV6] at HDl ⊢
        clear hV6
        have HM6 := box (HDl.out.mid HSt.out HGv.out)
        obtain ⟨n0, Hn0⟩ : ∃ n, Box ((LkM.without queue tx).length = n) := ⟨_, ⟨rfl⟩⟩
        obtain ⟨R2, HR2⟩ : ∃ x, Box (LkM.serve (LkM.without queue tx).length (LkM.without held tx) (LkM.without queue tx) gs = x) := ⟨_, ⟨rfl⟩⟩
        have hn12 : n0 ≤ 12 := by have := HHQ.out; have := Hn0.out; omega
        go_step
        go_wp2_with fail
        go_loopg [10] n0 (fun f t10 wr => ∃ (hl ql : List LkM) (gs' : List Int) (hv qv : Value) (ga' : Option Addr) (gL' gc' : Nat), t10 = .slice ga' gL' gc' ∧ gL' + f ≤ 12 * (k + 1) ∧ f ≤ 12 ∧ Box (ql.length = f ∧ gs'.length = gL' ∧ LkM.Okl hl ∧ (∀ a ∈ ql, LkM.Dom a) ∧ LkM.serve ql.length hl ql gs' = R2 ∧ LkM.DropM V4 B X it (.slice ha HL hc) (.slice qa QL qc) (.slice ga gL gc) hl ql hv qv gs' (.slice ga' gL' gc') wr))
        case atStart => exact ⟨LkM.without held tx, LkM.without queue tx, gs, v3, v7, ga, gL, gc, rfl, by omega, hn12, ⟨Hn0.out, HR.out.2.1, LkM.without_okl HOkx.out.held tx, (LkM.without_okl HOkx.out.queue tx).dom, HR2.out, HM6.out⟩⟩
        case round =>
          obtain ⟨hl, ql, gs', hv, qv, ga', gL', gc', rfl, hgf, hf12, HI⟩ := hrel
          clear HM6 HDl
          obtain ⟨hqf, hgl', hOk, hDq, hSv, hM⟩ := HI.out
          have hhl : hl.length ≤ 12 := LkM.okl_len hOk
          obtain ⟨b0, b1, b2, bz1, bz2, bs⟩ : wr.cell? ⟨X, 0, none⟩ = some (.int .i64 it) ∧ wr.cell? ⟨X, 1, none⟩ = some hv ∧ wr.cell? ⟨X, 2, none⟩ = some qv ∧ wr.frozen? ⟨X, 1, none⟩ = false ∧ wr.frozen? ⟨X, 2, none⟩ = false ∧ X < wr.heap.size := ⟨hM.c0, hM.c1, hM.c2, hM.z1, hM.z2, hM.xlt⟩
          obtain ⟨pa, pc, rfl, _, hLa, _, _⟩ := LksAt.own hM.held
          obtain ⟨na, nc, rfl, hqi, hqc, hqn⟩ := hM.queue
          have hLd : ∀ c : Bool, LkM.serve ql.length hl ql gs' = (hl, ql, gs') → Box (c = false) → Box (R2 = (hl, ql, gs')) := fun _ h _ => ⟨hSv.symm.trans h⟩
          have HAft : Box (R2 = (hl, ql, gs') → ∀ W, Below wr.heap.size wr W → LkM.dropGo tx (t.drop (k + 1)) (if hl = [] then os else os ++ [⟨it, hl, ql⟩]) gs' = RES ∧ LkM.DropM V4 B X it (.slice ha HL hc) (.slice qa QL qc) (.slice ga gL gc) hl ql (.slice pa hl.length pc) (.slice na ql.length nc) gs' (.slice ga' gL' gc') W) := ⟨fun e W hb => by
            refine ⟨?_, hM.after HSt.out hb⟩
            have h1 := HR.out.2.2.1
            rw [HDr.out, LkM.drop_step] at h1
            have h2 : LkM.dropItem ⟨it, held, queue⟩ tx gs = (⟨it, hl, ql⟩, gs') := by
              unfold LkM.dropItem
              dsimp only
              rw [HR2.out, e]
            rw [h2] at h1
            exact h1⟩
          clear hLd
          have HGo : Box ((LkM.goes hl ql = false → R2 = (hl, ql, gs')) ∧ (LkM.goes hl ql = true → ∃ a r, ql = a :: r ∧ LkM.can hl a = true)) := ⟨by
            rcases ql with _ | ⟨a, r⟩
            · exact ⟨fun _ => hSv.symm.trans LkM.serve_nil, fun h => by cases h⟩
            · exact ⟨fun h => hSv.symm.trans (LkM.serve_stop h), fun h => ⟨a, r, rfl, h⟩⟩⟩
          obtain ⟨c, Hc⟩ : ∃ c, Box (LkM.goes hl ql = c) := ⟨_, ⟨rfl⟩⟩
          rw [Hc.out] at HGo
          obtain ⟨PL, HPL⟩ : ∃ x, Box (hl.length = x) := ⟨_, ⟨rfl⟩⟩
          have HM := box hM
          have HCan : Box (∀ a r, ql = a :: r → ∀ wx, Below wr.heap.size wr wx → Calls Tryz.prog 75 #[.agg #[.int .i64 it, .slice pa PL pc, .slice na gk nc], .agg #[.int .i64 a.tx, .int .i64 a.mode]] wx fun e w' => e = .returned (.bool (LkM.can hl a)) ∧ Below wx.heap.size wx w') := ⟨fun a r e wx hb => by
            have := can_any it hl pa pc na gk nc a wx (hLa.below hb (Nat.le_refl _)) (fun h hh => (hOk.dom h hh).2.2) (hDq a (by rw [e]; exact List.mem_cons_self)).2.2 (by omega)
            rwa [HPL.out] at this⟩
          have HOkl := box hOk; have HDq := box hDq; have HSv := box hSv; have HQi := box hqi
          rw [hqf] at b2
          rw [HPL.out] at b1
          rw [hqf, HPL.out] at HM HAft
          have HQf := box hqf; have HGl := box hgl'; have HQc := box hqc
          clear hM hOk hDq hSv hLa hqi hqf hgl' hqc hqn hhl
          go_wp2_with fail
          go_cut [53] (fun s53 wx => s53 = .bool c ∧ Box (Below wr.heap.size wr wx))
          case first =>
            rcases ql with _ | ⟨a, r⟩
            · have hf := HQf.out
              rw [List.length_nil] at hf
              subst hf
              have hcf := Hc.out
              obtain rfl : false = c := hcf
              go_quiet (fail)
              go_wp2_with fail
              go_meet
              exact ⟨rfl, ⟨(Below.refl wr.heap.size wr).trans ⟨rfl, rfl, rfl, Nat.le_refl _, fun _ _ => rfl⟩⟩⟩
            · obtain ⟨qb, off, hna, _, hqs, hrow⟩ := HQi.out.resolve_left (by simp)
              subst hna
              obtain ⟨q0, q1⟩ := hrow 0 (by simp)
              rw [List.getElem_cons_zero] at q0 q1
              have hcf := Hc.out
              have hcf : LkM.can hl a = c := hcf
              have HCn := box (HCan.out a r rfl)
              rw [hcf] at HCn
              have hf1 : 0 < gk := by have := HQf.out; rw [List.length_cons] at this; omega
              have d5 : decide (0 < gk) = true := by simp; omega
              obtain ⟨atx, amode⟩ := a
              dsimp only at q0 q1 HCn
              simp only [Nat.zero_mul, Nat.add_zero] at q0 q1
              clear hrow hcf
              go_region_with (go_at_call 75; refine (HCn.out _ (by first | exact Below.refl _ _ | exact (Below.refl _ _).drew)).mono ?_; rintro e w' ⟨rfl, hb'⟩; have hbx : Below wr.heap.size wr w' := (by first | exact hb' | exact (Below.refl wr.heap.size wr).drew.trans hb'))
              all_goals (have HBx := box hbx)
              all_goals (clear hb' hbx)
              all_goals (go_wp2_with fail)
              all_goals go_meet
              all_goals first
                | exact ⟨rfl, HBx⟩
                | exact ⟨rfl, ⟨HBx.out.drew⟩⟩
          case rest =>
            obtain ⟨rfl, HBc⟩ := hcut
            cases c with
            | false =>
              obtain ⟨hGo, hMc⟩ := HAft.out (HGo.out.1 rfl) wc HBc.out
              obtain ⟨hS2, hMay⟩ := HSk.out it hl ql _ _ gs' _ wc hMc
              obtain ⟨y0, y1, y2, ys⟩ : wc.cell? ⟨X, 0, none⟩ = some (.int .i64 it) ∧ wc.cell? ⟨X, 1, none⟩ = some (.slice pa PL pc) ∧ wc.cell? ⟨X, 2, none⟩ = some (.slice na gk nc) ∧ X < wc.heap.size := ⟨hMc.c0, hMc.c1, hMc.c2, hMc.xlt⟩
              have hbw2 : Below Tb w wc := HR.out.2.2.2.2.trans (hMc.below.mono (by omega))
              have HMay := box hMay
              clear b0 b1 b2 bz1 bz2 bs hMay
              rcases hl with _ | ⟨h0, hr⟩
              · have hp := HPL.out
                rw [List.length_nil] at hp
                subst hp
                rw [if_pos rfl] at hGo
                have HNx := box hS2; have HGo2 := box hGo; have HBw := box hbw2
                clear hS2 hGo hbw2 hMc
                go_step
                go_wp2_with fail
                go_roundw
                case rel => exact ⟨k + 1, os, u, gs', oa, oL, oc, ga', gL', gc', by omega, by go_num, rfl, rfl, by omega, by omega, ⟨HR.out.1, HGl.out, HGo2.out, HNx.out, HBw.out⟩⟩
                case measure => simp [RowKit.intOf]; omega
              · have hp : 0 < PL := by have := HPL.out; rw [List.length_cons] at this; omega
                have d6 : decide (0 < PL) = true := by simp; omega
                rw [if_neg (by simp)] at hGo
                have hown := hS2.out
                rw [HR.out.1] at hown
                have hown := hown.alloc (.cells #[.int .i64 it, .slice pa PL pc, .slice na gk nc] 134)
                have hBs := hS2.hB
                have HNx := box hS2; have HGo2 := box hGo; have HBw := box hbw2
                clear hS2 hGo hbw2 hMc
                go_step
                go_wp2_with (at_builtin; go_must (refine wpList_append_lies _ rfl _ _ 64 rfl B 134 j0 _ 3 56 Tryz.underlying64 hj0 hy0 hy1 hy2 rfl (by decide) _ _ _ rfl hown ⟨wc.heap.size, 0, none⟩ 1 1 [.int .i64 it, .slice pa PL pc, .slice na gk nc] rfl rfl (cells_new wc [.int .i64 it, .slice pa PL pc, .slice na gk nc] 134) (by simp [Value.oneCell']) (by decide) (by unfold maxLen; omega) (by omega) (by simp; omega) (wc.heap.size + 1) (by simp) ?_))
                intro gg gcap w7 hown7 hgrow7 hat7 hlt7
                have HPut : Box (LkM.DropS B Tb tx (.slice (some ⟨g', 0, none⟩) N tc) t v (k + 1) (os ++ [⟨it, h0 :: hr, ql⟩]) (.slice (some ⟨gg, 0, none⟩) (oL + 1) gcap) (upd (upd u (2 * os.length) (.slice pa PL pc)) (2 * os.length + 1) (.slice na gk nc)) gs' (.slice ga' gL' gc') w7 ∧ Below Tb w w7 ∧ (os ++ [(⟨it, h0 :: hr, ql⟩ : LiM)]).length = oL + 1) := ⟨by
                  have hbA : Below wc.heap.size wc (wc.alloc (.cells #[.int .i64 it, .slice pa PL pc, .slice na gk nc] 134)) := (Below.refl _ _).alloc (Nat.le_refl _) _
                  have h1 := LkM.DropS.put (gg := gg) (gcap := gcap) (W' := w7) HNx.out HMay.out hbA (by rw [HR.out.1]; exact hown7) hgrow7 (hat7.imp id (fun e => by omega))
                  rw [HR.out.1] at h1
                  have h2 : Below Tb w w7 := (HBw.out.alloc (by have := HNx.out.hT; omega) _).grown hgrow7 (by simp; have := HNx.out.hT; omega) (fun b e => by have := (HNx.out.out.lt b e).1; omega)
                  rw [HR.out.1]
                  exact ⟨h1, h2, by rw [List.length_append, HR.out.1, List.length_singleton]⟩⟩
                clear hown7 hgrow7 hat7 hlt7 hown
                go_wp2_with fail
                go_roundw
                case rel => exact ⟨k + 1, os ++ [⟨it, h0 :: hr, ql⟩], _, gs', some ⟨gg, 0, none⟩, oL + 1, gcap, ga', gL', gc', by omega, by go_num, rfl, rfl, by omega, by omega, ⟨HPut.out.2.2, HGl.out, HGo2.out, HPut.out.1, HPut.out.2.1⟩⟩
                case measure => simp [RowKit.intOf]; omega
            | true =>
              obtain ⟨a, r, rfl, hca⟩ := HGo.out.2 rfl
              have hMc := HM.out.after HSt.out HBc.out
              obtain ⟨y0, y1, y2, yz1, yz2, ys⟩ : wc.cell? ⟨X, 0, none⟩ = some (.int .i64 it) ∧ wc.cell? ⟨X, 1, none⟩ = some (.slice pa PL pc) ∧ wc.cell? ⟨X, 2, none⟩ = some (.slice na gk nc) ∧ wc.frozen? ⟨X, 1, none⟩ = false ∧ wc.frozen? ⟨X, 2, none⟩ = false ∧ X < wc.heap.size := ⟨hMc.c0, hMc.c1, hMc.c2, hMc.z1, hMc.z2, hMc.xlt⟩
              have hgk : r.length + 1 = gk := by have := HQf.out; rwa [List.length_cons] at this
              obtain ⟨qb, off, hna, _⟩ := HQi.out.resolve_left (by simp)
              subst hna
              obtain ⟨qs, q0, q1, _, hnc⟩ := hMc.queue.cells
              have HG := box (give_any it hl pa pc (some ⟨qb, off, none⟩) gk nc a wc B X 0 y0 (by rw [HPL.out]; exact y1) y2 yz1 ys (by rw [HPL.out]; have h5 := hMc.held; rw [HPL.out] at h5; exact h5) (by rw [HPL.out]; exact hMc.hX HSt.out) (fun h hh => (HOkl.out.dom h hh).2.2) (HDq.out a List.mem_cons_self).2.2 (by have := LkM.okl_len HOkl.out; omega) (by have := HSt.out.hB; omega))
              rw [HPL.out] at HG
              have HMc := box hMc
              have HSv2 : Box (LkM.serve r.length (LkM.give hl a) r (gs' ++ [a.tx]) = R2) := ⟨by rw [← LkM.serve_step hca]; exact HSv.out⟩
              have HDa := HDq.out a List.mem_cons_self
              have HOk2 := box (LkM.give_okl HOkl.out HDa)
              have HDr2 : Box (∀ b ∈ r, LkM.Dom b) := ⟨fun b hb => HDq.out b (List.mem_cons_of_mem _ hb)⟩
              clear b0 b1 b2 bz1 bz2 bs HAft HGo HSv hMc hca HDa HCan
              obtain ⟨atx, amode⟩ := a
              dsimp only at q0 q1 HG HSv2
              have hgk1 : 0 < gk := by omega
              go_step
              go_wp2_with fail
              refine HG.out.mono ?_
              rintro e w8 ⟨rfl, hG⟩
              obtain ⟨pa2, pc2, hM8⟩ := HMc.out.give HSt.out hG
              clear y0 y1 y2 yz1 yz2 ys q0 q1 qs hG HMc HG
              obtain ⟨y0, y1, y2, yz1, yz2, ys⟩ : w8.cell? ⟨X, 0, none⟩ = some (.int .i64 it) ∧ w8.cell? ⟨X, 1, none⟩ = some (.slice pa2 (LkM.give hl ⟨atx, amode⟩).length pc2) ∧ w8.cell? ⟨X, 2, none⟩ = some (.slice (some ⟨qb, off, none⟩) gk nc) ∧ w8.frozen? ⟨X, 1, none⟩ = false ∧ w8.frozen? ⟨X, 2, none⟩ = false ∧ X < w8.heap.size := ⟨hM8.c0, hM8.c1, hM8.c2, hM8.z1, hM8.z2, hM8.xlt⟩
              obtain ⟨qs, q0, q1, _, _⟩ := hM8.queue.cells
              dsimp only at q0 q1
              have hown := hM8.given
              rw [HGl.out] at hown
              have hown := hown.alloc (.cells #[.int .i64 atx] 3)
              have HM8 := box hM8
              have hB8 : B ≤ w8.heap.size := by have := HSt.out.hB; omega
              clear hM8
              go_wp2_with (at_builtin; go_must (refine wpList_append_lies _ rfl _ _ 23 rfl B 3 i0 _ 1 8 Tryz.underlying23 hi0 hz0 hz1 hz2 rfl (by decide) _ _ _ rfl hown ⟨w8.heap.size, 0, none⟩ 1 1 [.int .i64 atx] rfl rfl (cells_new w8 [.int .i64 atx] 3) (by simp [Value.oneCell']) (by decide) (by unfold maxLen; omega) (by omega) (by simp; omega) (w8.heap.size + 1) (by simp) ?_))
              intro gg gcap w9 hown9 hgrow9 hat9 hlt9
              have hbA : Below w8.heap.size w8 (w8.alloc (.cells #[.int .i64 atx] 3)) := (Below.refl _ _).alloc (Nat.le_refl _) _
              have hM9 := LkM.DropM.app (x := atx) (gg := gg) (gcap := gcap) (W' := w9) HM8.out HSt.out hbA (by rw [HGl.out]; exact hown9) hgrow9 (hat9.imp id (fun e => by omega))
              rw [HGl.out] at hM9
              clear y0 y1 y2 yz1 yz2 ys q0 q1 qs HM8 hown9 hgrow9 hat9 hlt9 hown hbA hB8
              obtain ⟨y0, y1, y2, yz1, yz2, ys⟩ : w9.cell? ⟨X, 0, none⟩ = some (.int .i64 it) ∧ w9.cell? ⟨X, 1, none⟩ = some (.slice pa2 (LkM.give hl ⟨atx, amode⟩).length pc2) ∧ w9.cell? ⟨X, 2, none⟩ = some (.slice (some ⟨qb, off, none⟩) gk nc) ∧ w9.frozen? ⟨X, 1, none⟩ = false ∧ w9.frozen? ⟨X, 2, none⟩ = false ∧ X < w9.heap.size := ⟨hM9.c0, hM9.c1, hM9.c2, hM9.z1, hM9.z2, hM9.xlt⟩
              obtain ⟨qs, q0, q1, hqr, _⟩ := hM9.queue.cells
              have HM9 := box hM9; have HQr := box hqr
              clear hM9 hqr q0 q1
              have hgl2 : (gs' ++ [atx]).length = gL' + 1 := by rw [List.length_append, HGl.out, List.length_singleton]
              have HGl2 := box hgl2
              clear hgl2
              have HPop : Box (∀ u : Value, LkM.RowIn w9 B u r → u.ownBlock = some qb → LkM.DropM V4 B X it (.slice ha HL hc) (.slice qa QL qc) (.slice ga gL gc) (LkM.give hl ⟨atx, amode⟩) r (.slice pa2 (LkM.give hl ⟨atx, amode⟩).length pc2) u (gs' ++ [atx]) (.slice (some ⟨gg, 0, none⟩) (gL' + 1) gcap) (w9.setCell ⟨X, 2, none⟩ u)) := ⟨fun u h1 h2 => HM9.out.pop HSt.out h1 h2⟩
              by_cases hn1 : nc = 1
              · have hg1 : gk = 1 := by omega
                subst hn1
                have hr0 : r.length = 0 := by omega
                have HR0 : Box (r = []) := ⟨List.eq_nil_of_length_eq_zero hr0⟩
                have hrl : r.length = gk - 1 := by omega
                have HRl := box hrl
                clear hgk hnc hr0 hrl hgk1
                subst hg1
                go_wp2_with fail
                go_roundg (1 - 1)
                case measure => omega
                case rel => exact ⟨LkM.give hl ⟨atx, amode⟩, r, gs' ++ [atx], _, _, some ⟨gg, 0, none⟩, gL' + 1, gcap, rfl, by omega, by omega, ⟨HRl.out, HGl2.out, HOk2.out, HDr2.out, HSv2.out, HPop.out _ ⟨_, _, by rw [HRl.out], by rw [HR0.out]; exact Or.inl rfl, by rw [HRl.out]; omega, fun h => by cases h⟩ rfl⟩⟩
              · have hgk2 : 1 ≤ gk := by omega
                have hnc2 : gk ≤ nc := by omega
                have hnc3 : (gk : Int) ≤ (nc : Int) := by omega
                have hnc4 : (1 : Int) ≤ (gk : Int) := by omega
                have hrl : r.length = gk - 1 := by omega
                have HRl := box hrl
                clear hrl
                go_wp2_with fail
                go_roundg (gk - 1)
                case measure => omega
                case rel => exact ⟨LkM.give hl ⟨atx, amode⟩, r, gs' ++ [atx], _, _, some ⟨gg, 0, none⟩, gL' + 1, gcap, rfl, by omega, by omega, ⟨HRl.out, HGl2.out, HOk2.out, HDr2.out, HSv2.out, HPop.out _ (by have h5 := HQr.out (nc - 1) (by omega); rw [HRl.out] at h5; exact h5) rfl⟩⟩
    · obtain rfl : k = N := by omega
      obtain ⟨hOl, hGl, hRs, hDS, hbw⟩ := HR.out
      obtain ⟨oa', oc', ga', gc', e1, e2, hL, hI, hGB⟩ := hDS.fin
      have HFin : Box (Post (.returned (.tuple #[.slice oa oL oc, .slice ga gL gc, .int .i64 0])) V4) := ⟨by
        rw [← HPost.out]
        have hRs' : LkM.drop t tx = (os, gs) := by
          rw [List.drop_of_length_le (by rw [HN.out]; exact Nat.le_refl _)] at hRs
          exact HRES.out.trans hRs.symm
        refine ⟨by rw [HTb.out]; exact hbw, Or.inr ⟨by rw [HEd.out], oa', oc', ga', gc', ?_, ?_, ?_⟩⟩
        · rw [hRs', e1, e2]
        · rw [hRs', HTb.out]; exact hL.mono (by omega)
        · rw [hRs']; exact ⟨hI, fun b o e => by rw [HTb.out]; have := hGB b o e; omega⟩⟩
      have d0 : decide (k < k) = false := by simp
      clear e1 e2 hOl hGl hRs hDS hbw hL hI hGB
      go_wp2_with fail
      exact HFin.out
end Go.Proofs.YtnnkejolfhhmlaaGreat
