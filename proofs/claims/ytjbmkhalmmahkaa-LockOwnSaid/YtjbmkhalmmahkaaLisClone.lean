/- slices.Clone over a table of locks; quirref.SameLocks. -/
import Derived.Test.YtjbmkhalmmahkaaLksOpen
import Derived.Test.YtjbmkhalmmahkaaLkI
import Derived.Test.YtjbmkhalmmahkaaLkA
import Derived.Deep.DeepMust
import Derived.Lib.LazyBuf
import Derived.Deep.QuietTactic
import Derived.BigQuiet
namespace Go.Proofs.Ytjbmkhalmmahkaa
open Go.RowKit Go.Lib

theorem LkM.InV.below {w w' : World} {ao : Option Addr} {t : List LiM} {v : Nat → Value} (h : LkM.InV w ao t v) (hb : Below w.heap.size w w') : LkM.InV w' ao t v := by
  refine ⟨h.cells.imp id ?_, fun i hi => ?_⟩
  · rintro ⟨b, off, h1, h2, h3⟩
    exact ⟨b, off, h1, Nat.lt_of_lt_of_le h2 hb.size, fun k hk => ⟨(hb.cell (p := ⟨b, off + k * 3, none⟩) h2).trans (h3 k hk).1, (hb.cell (p := ⟨b, off + k * 3 + 1, none⟩) h2).trans (h3 k hk).2.1, (hb.cell (p := ⟨b, off + k * 3 + 2, none⟩) h2).trans (h3 k hk).2.2⟩⟩
  · obtain ⟨a, c, h1, h2, h3⟩ := h.rows i hi
    exact ⟨a, c, h1, h2.below hb (Nat.le_refl _), h3⟩
theorem LkM.InV.one {w : World} {ao : Option Addr} {t : List LiM} {v : Nat → Value} (h : LkM.InV w ao t v) : ∀ u ∈ LkM.liVals t v, u.oneCell' = true := by
  intro u hu
  unfold LkM.liVals at hu
  rw [List.mem_flatMap] at hu
  obtain ⟨k, hk, hu⟩ := hu
  have hk := List.mem_range.1 hk
  obtain ⟨ha, hc, h1, _⟩ := h.rows (2 * k) (by omega)
  obtain ⟨qa, qc, h2, _⟩ := h.rows (2 * k + 1) (by omega)
  simp only [List.mem_cons, List.not_mem_nil, or_false] at hu
  rcases hu with rfl | rfl | rfl
  · rfl
  · rw [h1]; rfl
  · rw [h2]; rfl

set_option maxRecDepth 20000 in
set_option maxHeartbeats 2000000 in
theorem clone_lis (t : List LiM) (v : Nat → Value) (ao : Option Addr) (cap : Nat) (w : World) (h : LkM.InV w ao t v) (hnil : ao = none → cap = 0) (hn : t.length * 56 ≤ 140737488355328) :
    Calls Try.prog 7 #[.slice ao t.length cap] w fun e w' => (∃ u, e = .returned u ∧ w'.ownsRow w.heap.size 32 3 u t.length (LkM.liVals t v)) ∧ Below w.heap.size w w' := by
  have H := box h
  clear h
  have q0 := fun (w : World) (a : Option Addr) (n c : Nat) => _root_.Go.run_eql_slice_nil (P := Try.prog) w 23 32 a n c Try.underlying23
  cases ao with
  | none =>
    have hl : t = [] := H.out.cells.resolve_right (by rintro ⟨b, off, h, _⟩; cases h)
    have hc := hnil rfl
    subst hl
    subst hc
    go_enter Try.func7, Try.ntmps7
    go_wp2_with fail
    go_ret
    exact ⟨⟨_, rfl, World.ownsRow_nil _ _ _ _⟩, Below.refl _ _⟩
  | some ad =>
    obtain ⟨i0, hi0, hz0, hz1, hz2⟩ := info_parts Try.infoLi
    have Hcs : Box (∀ wx, Below w.heap.size w wx → ∀ j u, (LkM.liVals t v)[j]? = some u → wx.cell? (ad.add j) = some u) := ⟨fun wx hx j u hu => by
      rcases H.out.cells with h | ⟨b, off, h1, h2, h3⟩
      · subst h; simp [LkM.liVals] at hu
      · injection h1 with h1
        subst h1
        have hj : j < t.length * 3 := by have := (List.getElem?_eq_some_iff.1 hu).1; rw [LkM.liVals_len] at this; exact this
        rw [Addr.add_lit]
        refine (hx.cell (p := ⟨b, off + j, none⟩) h2).trans ?_
        have hk : j / 3 < t.length := by omega
        obtain ⟨a0, a1, a2⟩ := LkM.liVals_at (v := v) hk
        obtain ⟨c0, c1, c2⟩ := h3 (j / 3) hk
        rcases (show j % 3 = 0 ∨ j % 3 = 1 ∨ j % 3 = 2 by omega) with e | e | e
        · have ej : j / 3 * 3 = j := by omega
          rw [ej] at a0 c0
          rw [c0, ← a0, hu]
        · have ej : j / 3 * 3 + 1 = j := by omega
          rw [ej] at a1
          rw [show off + j / 3 * 3 + 1 = off + j by omega] at c1
          rw [c1, ← a1, hu]
        · have ej : j / 3 * 3 + 2 = j := by omega
          rw [ej] at a2
          rw [show off + j / 3 * 3 + 2 = off + j by omega] at c2
          rw [c2, ← a2, hu]⟩
    clear hnil
    go_enter Try.func7, Try.ntmps7
    have hown := World.ownsRow_lit (base := w.heap.size) (e := 32) (size := 3) w #[] 0 (Nat.le_refl _) (Nat.zero_le _) rfl
    have HB := box ((Below.refl w.heap.size w).alloc (Nat.le_refl _) (.cells #[] 32))
    go_wp2_with (at_builtin; go_must (refine wpList_append_own _ rfl _ _ 23 rfl w.heap.size 32 i0 _ 3 56 Try.underlying23 hi0 hz0 hz1 hz2 rfl (by decide) _ _ _ rfl hown ad t.length cap (LkM.liVals t v) rfl (LkM.liVals_len t v) (Hcs.out _ HB.out) H.out.one (by unfold maxLen; omega) (by simp; omega) (by simp) ?_))
    intro v' w9 hown3 hgrow _
    have HB9 := box (HB.out.grown hgrow (by simp) (fun j hj => by have := hown.lt j hj; omega))
    clear hgrow hown
    go_wp2_with fail
    go_ret
    exact ⟨⟨_, rfl, by simpa using hown3⟩, HB9.out⟩
set_option maxRecDepth 20000 in
set_option maxHeartbeats 4000000 in
theorem sameLi_f (x : LiM) (ha qa hb qb : Option Addr) (hc qc hd qd : Nat) (W : World) (h1 : LksAt W ha x.held) (h2 : LksAt W qa x.queue) (h3 : LksAt W hb x.held) (h4 : LksAt W qb x.queue) (n1 : x.held.length ≤ 9000000000000) (n2 : x.queue.length ≤ 9000000000000) :
    Calls Try.prog 38 #[.agg #[.int .i64 x.item, .slice ha x.held.length hc, .slice qa x.queue.length qc], .agg #[.int .i64 x.item, .slice hb x.held.length hd, .slice qb x.queue.length qd]] W fun e w' => e = .returned (.bool true) ∧ Below W.heap.size W w' := by
  obtain ⟨it, held, queue⟩ := x
  have HE1 := box (fun (wx : World) (hb' : Below W.heap.size W wx) => LkA.equal held ha hb hc hd wx (h1.below hb' (Nat.le_refl _)) (h3.below hb' (Nat.le_refl _)) n1)
  have HE2 := box (fun (wx : World) (hb' : Below W.heap.size W wx) => LkA.equal queue qa qb qc qd wx (h2.below hb' (Nat.le_refl _)) (h4.below hb' (Nat.le_refl _)) n2)
  dsimp only
  obtain ⟨HL, HHL⟩ : ∃ n, Box (held.length = n) := ⟨_, ⟨rfl⟩⟩
  obtain ⟨QL, HQL⟩ : ∃ n, Box (queue.length = n) := ⟨_, ⟨rfl⟩⟩
  rw [HHL.out] at HE1 ⊢
  rw [HQL.out] at HE2 ⊢
  clear h1 h2 h3 h4 n1 n2
  have d0 : (it == it) = true := by simp
  have hB1 : Blk ((W.alloc (.cells #[.int .i64 it, .slice ha HL hc, .slice qa QL qc] 32)).alloc (.cells #[.int .i64 it, .slice hb HL hd, .slice qb QL qd] 32)) W.heap.size 32 [.int .i64 it, .slice ha HL hc, .slice qa QL qc] := (Blk.new W _ _).alloc _
  have hB2 : Blk ((W.alloc (.cells #[.int .i64 it, .slice ha HL hc, .slice qa QL qc] 32)).alloc (.cells #[.int .i64 it, .slice hb HL hd, .slice qb QL qd] 32)) (W.heap.size + 1) 32 [.int .i64 it, .slice hb HL hd, .slice qb QL qd] := by
    have := Blk.new (W.alloc (.cells #[.int .i64 it, .slice ha HL hc, .slice qa QL qc] 32)) [.int .i64 it, .slice hb HL hd, .slice qb QL qd] 32
    rwa [World.size_alloc] at this
  have HV : Box (Below W.heap.size W ((W.alloc (.cells #[.int .i64 it, .slice ha HL hc, .slice qa QL qc] 32)).alloc (.cells #[.int .i64 it, .slice hb HL hd, .slice qb QL qd] 32))) := ⟨((Below.refl _ _).alloc (Nat.le_refl _) _).alloc (by simp) _⟩
  have HB1 := box hB1; have HB2 := box hB2
  clear hB1 hB2
  go_enter Try.func38, Try.ntmps38
  go_upto_region 1 with (fail)
  refine name_world (fun w2 => Below W.heap.size W w2 ∧ Blk w2 W.heap.size 32 [.int .i64 it, .slice ha HL hc, .slice qa QL qc] ∧ Blk w2 (W.heap.size + 1) 32 [.int .i64 it, .slice hb HL hd, .slice qb QL qd]) ⟨HV.out, HB1.out, HB2.out⟩ ?_
  rintro w2 ⟨g1, g2, g3⟩
  have HG := box g1; have HG2 := box g2; have HG3 := box g3
  have x0 := g2.cell (i := 0) rfl
  have x1 := g2.cell (i := 1) rfl
  have y0 := g3.cell (i := 0) rfl
  have y1 := g3.cell (i := 1) rfl
  have xl := g2.lt
  have yl := g3.lt
  clear HV HB1 HB2 g1 g2 g3
  generalize W.heap.size + 1 = Y at *
  go_wp2_with fail
  refine (HE1.out w2 HG.out).mono ?_
  rintro e w3 ⟨rfl, n, rfl⟩
  have HG' : Box (Below W.heap.size W (w2.drewN n)) := ⟨HG.out.trans ⟨rfl, rfl, rfl, Nat.le_refl _, fun _ _ => rfl⟩⟩
  have k2 : Blk (w2.drewN n) W.heap.size 32 [.int .i64 it, .slice ha HL hc, .slice qa QL qc] := HG2.out.drewN n
  have k3 : Blk (w2.drewN n) Y 32 [.int .i64 it, .slice hb HL hd, .slice qb QL qd] := HG3.out.drewN n
  have x2 := k2.cell (i := 2) rfl
  have y2 := k3.cell (i := 2) rfl
  have xl2 := k2.lt
  have yl2 := k3.lt
  clear x0 x1 y0 y1 xl yl k2 k3 HG HG2 HG3 HE1
  generalize w2.drewN n = W3 at *
  go_wp2_with fail
  refine (HE2.out W3 HG'.out).mono ?_
  rintro e w4 ⟨rfl, m, rfl⟩
  go_wp2_with fail
  go_ret
  exact ⟨rfl, HG'.out.trans ⟨rfl, rfl, rfl, Nat.le_refl _, fun _ _ => rfl⟩⟩

set_option maxRecDepth 20000 in
set_option maxHeartbeats 4000000 in
theorem sameLocks_same (t : List LiM) (ao bo : Option Addr) (cap cap' lo lo' : Nat) (w : World) (h : LisIn w lo ao t) (h' : LisIn w lo' bo t) (hs : LkM.Small t) :
    Calls Try.prog 13 #[.slice ao t.length cap, .slice bo t.length cap'] w fun e w' => e = .returned (.bool true) ∧ Below w.heap.size w w' := by
  have H := box h; have H' := box h'; have HS := box hs
  have hn := hs.1
  clear h h' hs
  obtain ⟨N, HN⟩ : ∃ n, Box (t.length = n) := ⟨_, ⟨rfl⟩⟩
  rw [HN.out] at hn ⊢
  have HQ : Box (∀ wr : World, Below w.heap.size w wr → Calls Try.prog 37 #[.slice ao N cap, .slice bo N cap', .func (.func 38) #[] #[]] wr fun e w' => e = .returned (.bool true) ∧ Below wr.heap.size wr w') := ⟨fun w0 hw0 => by
    have HW0 := box hw0
    clear hw0
    have d0 : ((N : Int) != (N : Int)) = false := by simp
    have eg := enters_fn Try.func38 (by kernel_rfl) rfl
    go_enter Try.func37, Try.ntmps37
    go_wp2_with fail
    go_loopw [17] (fun t17 wr => ∃ k : Nat, k ≤ N ∧ t17 = .int .i64 (k : Int) ∧ Box (Below w0.heap.size w0 wr)) (fun t17 _ => N - (RowKit.intOf t17).toNat)
    case atStart => exact ⟨0, Nat.zero_le _, rfl, ⟨Below.refl _ _⟩⟩
    case round =>
      obtain ⟨k, hk, rfl, HR⟩ := hrel
      by_cases hlt : k < N
      · have hkl : k < t.length := by rw [HN.out]; exact hlt
        have hbw : Below w.heap.size w wr := HW0.out.trans (HR.out.mono HW0.out.size)
        obtain ⟨b, off, rfl, _, hb, hrow⟩ := (H.out.below hbw (Nat.le_refl _)).resolve_left (by intro h; rw [h] at hkl; simp at hkl)
        obtain ⟨b', off', rfl, _, hb', hrow'⟩ := (H'.out.below hbw (Nat.le_refl _)).resolve_left (by intro h; rw [h] at hkl; simp at hkl)
        obtain ⟨ha, hc, qa, qc, hli⟩ := hrow k hkl
        obtain ⟨hb2, hd, qb, qd, hli'⟩ := hrow' k hkl
        obtain ⟨sm1, sm2⟩ := HS.out.2 _ (List.getElem_mem hkl)
        generalize t[k] = x at *
        obtain ⟨it, held, queue⟩ := x
        obtain ⟨c0, c1, c2, hH, hQ, _, _, _, _⟩ := hli
        obtain ⟨e0, e1, e2, hH', hQ', _, _, _, _⟩ := hli'
        dsimp only at c0 c1 c2 e0 e1 e2 hH hQ hH' hQ' sm1 sm2
        have hal : Below wr.heap.size wr ((wr.alloc (.cells #[.int .i64 it, .slice ha held.length hc, .slice qa queue.length qc] 32)).alloc (.cells #[.int .i64 it, .slice hb2 held.length hd, .slice qb queue.length qd] 32)) := ((Below.refl _ _).alloc (Nat.le_refl _) _).alloc (by simp) _
        have HF := box (sameLi_f ⟨it, held, queue⟩ ha qa hb2 qb hc qc hd qd _ (hH.at.below hal (Nat.le_refl _)) (hQ.at.below hal (Nat.le_refl _)) (hH'.at.below hal (Nat.le_refl _)) (hQ'.at.below hal (Nat.le_refl _)) sm1 sm2)
        have HV : Box (Below w0.heap.size w0 ((wr.alloc (.cells #[.int .i64 it, .slice ha held.length hc, .slice qa queue.length qc] 32)).alloc (.cells #[.int .i64 it, .slice hb2 held.length hd, .slice qb queue.length qd] 32))) := ⟨HR.out.trans (hal.mono HR.out.size)⟩
        clear hrow hrow' hH hQ hH' hQ' hal hbw HR sm1 sm2
        go_wp2_with fail
        refine HF.out.mono ?_
        rintro e w5 ⟨rfl, hb5⟩
        have HW : Box (Below w0.heap.size w0 w5) := ⟨HV.out.trans (hb5.mono HV.out.size)⟩
        clear hb5 HF HV c0 c1 c2 e0 e1 e2
        go_wp2_with fail
        go_roundw
        case rel => exact ⟨k + 1, by omega, by go_num, HW⟩
        case measure => simp [RowKit.intOf]; omega
      · obtain rfl : k = N := by omega
        have dk : decide (k < k) = false := by simp
        go_wp2_with fail
        go_ret
        exact ⟨rfl, HR.out⟩⟩
  go_enter Try.func13, Try.ntmps13
  go_wp2_with fail
  refine (HQ.out w (Below.refl _ _)).mono ?_
  rintro e w2 ⟨rfl, hb⟩
  have HB := box hb
  clear hb
  go_wp2_with fail
  go_ret
  exact ⟨rfl, HB.out⟩
end Go.Proofs.Ytjbmkhalmmahkaa
