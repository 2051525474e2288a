/- lock.line: what it computes. -/
import Derived.Test.YtnnkejolfhhmlaaGreatLkW
import Derived.Test.YtnnkejolfhhmlaaGreatLkI
import Derived.Deep.RegionWith
namespace Go.Proofs.YtnnkejolfhhmlaaGreat
open Go.RowKit Go.Lib

namespace LkM
/-- Some locks of a list have been looked at. -/
structure Seen (l : List LkM) (k : Nat) (g : Nat → Int) : Prop where
  dom : ∀ j (hj : j < l.length), j < k → Dom l[j]
  once : ((l.take k).map LkM.tx).Nodup
  tab : ∀ x : Nat, x < 12 → (0 < g x ↔ ((x : Int) ∈ (l.take k).map LkM.tx))
section
variable {l : List LkM} {k : Nat} {g : Nat → Int}
theorem Seen.start (l : List LkM) : Seen l 0 (fun _ => 0) := ⟨fun j _ h => by omega, by simp, fun x _ => by simp⟩
theorem Seen.next (h : Seen l k g) (hk : k < l.length) (hd : Dom l[k]) {t : Nat} (ht : l[k].tx = (t : Int)) (hn : ¬ 0 < g t) : Seen l (k + 1) (upd g t l[k].mode) := by
  have h12 : t < 12 := by have := hd.2.1; omega
  have hnot : ((t : Int)) ∉ (l.take k).map LkM.tx := fun e => hn ((h.tab t h12).2 e)
  refine ⟨fun j hj hjk => ?_, ?_, fun x hx => ?_⟩
  · by_cases e : j = k
    · subst e; exact hd
    · exact h.dom j hj (by omega)
  · rw [List.take_succ_eq_append_getElem hk, List.map_append, List.nodup_append]
    refine ⟨h.once, by simp, fun a ha b hb e => ?_⟩
    simp only [List.map_cons, List.map_nil, List.mem_singleton] at hb
    subst hb; subst e
    rw [ht] at ha
    exact hnot ha
  · rw [List.take_succ_eq_append_getElem hk, List.map_append, List.mem_append]
    simp only [List.map_cons, List.map_nil, List.mem_singleton, ht]
    unfold upd
    split
    · rename_i e
      subst e
      have := hd.2.2.1
      constructor
      · intro _; exact Or.inr rfl
      · intro _; omega
    · rename_i e
      rw [h.tab x hx]
      constructor
      · exact Or.inl
      · rintro (h1 | h1)
        · exact h1
        · omega
theorem Seen.all (h : Seen l l.length g) : Okl l := ⟨fun a ha => by
  obtain ⟨j, hj, rfl⟩ := List.mem_iff_getElem.1 ha
  exact h.dom j hj hj, by have := h.once; rwa [List.take_length] at this⟩
theorem bad_dom (hk : k < l.length) (h : ¬ Dom l[k]) : ¬ Okl l := fun h2 => h (h2.dom _ (List.getElem_mem hk))
theorem Seen.bad (h : Seen l k g) (hk : k < l.length) {t : Nat} (ht : l[k].tx = (t : Int)) (h12 : t < 12) (hn : 0 < g t) : ¬ Okl l := fun h2 => by
  have h3 := (h.tab t h12).1 hn
  obtain ⟨a, ha, e⟩ := List.mem_map.1 h3
  obtain ⟨j, hj, rfl⟩ := List.mem_iff_getElem.1 ha
  rw [List.length_take] at hj
  rw [List.getElem_take] at e
  have := h2.once
  rw [List.nodup_iff_pairwise_ne, List.pairwise_map] at this
  exact List.pairwise_iff_getElem.1 this j k (by omega) hk (by omega) (e.trans ht.symm)
end
/-- The first pairs fit. -/
def FitTo (l : List LkM) (i j : Nat) : Prop := ∀ a b (ha : a < l.length) (hb : b < l.length), a < b → (a < i ∨ (a = i ∧ b ≤ i + j)) → LockM.fitB l[a].mode l[b].mode = true
theorem FitTo.start (l : List LkM) : FitTo l 0 0 := fun a b _ _ h1 h2 => by omega
theorem FitTo.next {l : List LkM} {i j : Nat} (h : FitTo l i j) (hi : i < l.length) (hj : i + 1 + j < l.length) (hf : LockM.fitB l[i].mode l[i + 1 + j].mode = true) : FitTo l i (j + 1) := fun a b ha hb h1 h2 => by
  by_cases e : a = i ∧ b = i + 1 + j
  · obtain ⟨rfl, rfl⟩ := e
    exact hf
  · exact h a b ha hb h1 (by omega)
theorem FitTo.row {l : List LkM} {i j : Nat} (h : FitTo l i j) (hj : i + 1 + j = l.length) : FitTo l (i + 1) 0 := fun a b ha hb h1 h2 => h a b ha hb h1 (by omega)
theorem FitTo.all {l : List LkM} {i : Nat} (h : FitTo l i 0) (hi : i = l.length) : l.Pairwise fun a b => LockM.fitB a.mode b.mode = true :=
  List.pairwise_iff_getElem.2 fun a b ha hb hab => h a b ha hb hab (by omega)
theorem fit_bad {l : List LkM} {a b : Nat} (ha : a < l.length) (hb : b < l.length) (hab : a < b) (hf : LockM.fitB l[a].mode l[b].mode = false) : ¬ l.Pairwise fun a b => LockM.fitB a.mode b.mode = true := fun h => by
  rw [List.pairwise_iff_getElem.1 h a b ha hb hab] at hf
  cases hf
/-- What line answers. -/
def lineZ (x : LiM) : Int := if line x = true then 0 else 4
theorem lineZ_bad {x : LiM} (h : ¬ Ok x) : lineZ x = 4 := if_neg fun e => h (line_iff.1 e)
theorem lineZ_ok {x : LiM} (h : Ok x) : lineZ x = 0 := if_pos (line_iff.2 h)
end LkM

/-- A table of twelve. -/
def LkT (w : World) (A : Nat) (g : Nat → Int) : Prop := Blk w A 70 (Tab 12 (fun x => Value.int .i64 (g x)))
theorem LkT.set {w : World} {A : Nat} {g : Nat → Int} (h : LkT w A g) (i : Nat) (x : Int) : LkT (w.setCell ⟨A, i, none⟩ (.int .i64 x)) A (upd g i x) := by
  have := Blk.tabSet h i (.int .i64 x)
  unfold LkT
  rw [show (fun y => Value.int .i64 (upd g i x y)) = upd (fun y => Value.int .i64 (g y)) i (.int .i64 x) from funext fun y => by unfold upd; split <;> rfl]
  exact this
set_option maxRecDepth 20000 in
set_option maxHeartbeats 16000000 in
theorem line_any (it : Int) (held queue : List LkM) (ha qa : Option Addr) (hc qc : Nat) (w : World) (hH : LksAt w ha held) (hQ : LksAt w qa queue) (hn : held.length ≤ 9000000000000) (hn2 : queue.length ≤ 9000000000000) (hcl : held.length ≤ hc) :
    Calls Tryz.prog 99 #[.agg #[.int .i64 it, .slice ha held.length hc, .slice qa queue.length qc]] w fun e w' => e = .returned (.int .i64 (LkM.lineZ ⟨it, held, queue⟩)) ∧ Below w.heap.size w w' := by
  have HH := box hH; have HQ := box hQ
  clear hH hQ
  obtain ⟨N, HN⟩ : ∃ N, Box (held.length = N) := ⟨_, ⟨rfl⟩⟩
  obtain ⟨M, HM⟩ : ∃ N, Box (queue.length = N) := ⟨_, ⟨rfl⟩⟩
  rw [HN.out] at hn hcl ⊢
  rw [HM.out] at hn2 ⊢
  obtain ⟨res, HRes⟩ : ∃ x, Box (LkM.lineZ ⟨it, held, queue⟩ = x) := ⟨_, ⟨rfl⟩⟩
  rw [HRes.out]
  have HBad : Box (¬ LkM.Ok ⟨it, held, queue⟩ → res = 4) := ⟨fun h => by rw [← HRes.out]; exact LkM.lineZ_bad h⟩
  have HOk : Box (LkM.Ok ⟨it, held, queue⟩ → res = 0) := ⟨fun h => by rw [← HRes.out]; exact LkM.lineZ_ok h⟩
  obtain ⟨I, HI⟩ : ∃ x, Box (w.heap.size = x) := ⟨_, ⟨rfl⟩⟩
  go_enter Tryz.func99, Tryz.ntmps99
  have h0 : ∃ W0, Box (W0 = ((w.alloc (.cells #[.int .i64 it, .slice ha N hc, .slice qa M qc] 134)).alloc (.cells (Tab 12 fun _ => Value.int .i64 0).toArray 70)).alloc (.cells (Tab 12 fun _ => Value.int .i64 0).toArray 70)) := ⟨_, ⟨rfl⟩⟩
  obtain ⟨W0, HW0⟩ := h0
  have HS : Box (LkT W0 (I + 1) (fun _ => 0) ∧ Below I w W0 ∧ Blk W0 I 134 [.int .i64 it, .slice ha N hc, .slice qa M qc] ∧ LkT W0 (I + 1 + 1) (fun _ => 0)) := ⟨by
    rw [HW0.out, ← HI.out]
    have n1 := Blk.new w [.int .i64 it, .slice ha N hc, .slice qa M qc] 134
    have n2 := Blk.new (w.alloc (.cells #[.int .i64 it, .slice ha N hc, .slice qa M qc] 134)) (Tab 12 fun _ => Value.int .i64 0) 70
    have n3 := Blk.new ((w.alloc (.cells #[.int .i64 it, .slice ha N hc, .slice qa M qc] 134)).alloc (.cells (Tab 12 fun _ => Value.int .i64 0).toArray 70)) (Tab 12 fun _ => Value.int .i64 0) 70
    simp only [World.size_alloc] at n2 n3
    exact ⟨n2.alloc _, (((Below.refl _ _).alloc (Nat.le_refl _) _).alloc (by simp) _).alloc (by simp only [World.size_alloc]; omega) _, (n1.alloc _).alloc _, n3⟩⟩
  go_wp2_with fail
  rw [HI.out]
  have hw0 : ((w.alloc (.cells #[.int .i64 it, .slice ha N hc, .slice qa M qc] 134)).alloc (.cells #[.int .i64 0, .int .i64 0, .int .i64 0, .int .i64 0, .int .i64 0, .int .i64 0, .int .i64 0, .int .i64 0, .int .i64 0, .int .i64 0, .int .i64 0, .int .i64 0] 70)).alloc (.cells #[.int .i64 0, .int .i64 0, .int .i64 0, .int .i64 0, .int .i64 0, .int .i64 0, .int .i64 0, .int .i64 0, .int .i64 0, .int .i64 0, .int .i64 0, .int .i64 0] 70) = W0 := HW0.out.symm
  rw [hw0]
  clear hw0 HW0
  go_loopw [16] (fun t16 wr => ∃ (k : Nat) (g : Nat → Int), k ≤ N ∧ t16 = .int .i64 (k : Int) ∧ Box (LkM.Seen held k g ∧ LkT wr (I + 1) g ∧ Below I w wr ∧ Blk wr I 134 [.int .i64 it, .slice ha N hc, .slice qa M qc] ∧ LkT wr (I + 1 + 1) (fun _ => 0))) (fun t16 _ => N - (RowKit.intOf t16).toNat)
  case atStart => exact ⟨0, fun _ => 0, Nat.zero_le _, rfl, ⟨LkM.Seen.start _, HS.out⟩⟩
  case round =>
    obtain ⟨k, g, hk, rfl, HR⟩ := hrel
    clear HS
    by_cases hlt : k < N
    · have hkl : k < held.length := by rw [HN.out]; exact hlt
      obtain ⟨b, off, hab, hb, hrow⟩ := (HH.out.below HR.out.2.2.1 (by rw [HI.out]; exact Nat.le_refl _)).resolve_left (by intro h; have := HN.out; rw [h, List.length_nil] at this; omega)
      obtain ⟨c0, c1⟩ := hrow k hkl
      have HDm : Box (¬ LkM.Dom held[k] → res = 4) := ⟨fun h => HBad.out fun h2 => LkM.bad_dom hkl h h2.held⟩
      have HSn : Box (∀ t : Nat, held[k].tx = (t : Int) → t < 12 → 0 < g t → res = 4) := ⟨fun t h1 h2 h3 => HBad.out fun h4 => HR.out.1.bad hkl h1 h2 h3 h4.held⟩
      have HNx : Box (LkM.Dom held[k] → ∀ t : Nat, held[k].tx = (t : Int) → ¬ 0 < g t → LkM.Seen held (k + 1) (upd g t held[k].mode)) := ⟨fun h1 t h2 h3 => HR.out.1.next hkl h1 h2 h3⟩
      have hbs := Blk.lt HR.out.2.1
      generalize held[k] = x at *
      obtain ⟨tx, mode⟩ := x
      dsimp only at c0 c1 HSn HNx
      have HW : Box (LkT (wr.alloc (.cells #[.int .i64 tx, .int .i64 mode] 137)) (I + 1) g ∧ Below I w (wr.alloc (.cells #[.int .i64 tx, .int .i64 mode] 137)) ∧ Blk (wr.alloc (.cells #[.int .i64 tx, .int .i64 mode] 137)) I 134 [.int .i64 it, .slice ha N hc, .slice qa M qc] ∧ LkT (wr.alloc (.cells #[.int .i64 tx, .int .i64 mode] 137)) (I + 1 + 1) (fun _ => 0)) := ⟨Blk.alloc HR.out.2.1 _, HR.out.2.2.1.alloc (by omega) _, HR.out.2.2.2.1.alloc _, Blk.alloc HR.out.2.2.2.2 _⟩
      clear hrow
      subst hab
      cases d0 : decide (tx < 0) with
      | true =>
        have hres := HDm.out (fun h => by have := of_decide_eq_true d0; have := h.1; dsimp only at this; omega)
        subst hres
        have HB := box HW.out.2.1
        clear HW
        go_wp2_with fail
        go_ret
        exact ⟨rfl, by rw [HI.out]; exact HB.out⟩
      | false =>
      have d0' := of_decide_eq_false d0
      cases d1 : decide ((12 : Int) ≤ tx) with
      | true =>
        have hres := HDm.out (fun h => by have := of_decide_eq_true d1; have := h.2.1; dsimp only at this; omega)
        subst hres
        have HB := box HW.out.2.1
        clear HW
        go_wp2_with fail
        go_ret
        exact ⟨rfl, by rw [HI.out]; exact HB.out⟩
      | false =>
      have d1' := of_decide_eq_false d1
      by_cases hmd : 1 ≤ mode ∧ mode ≤ 5
      case neg =>
        have hres := HDm.out (fun h => hmd h.2.2)
        subst hres
        have HB := box HW.out.2.1
        have Hmd := box hmd
        clear HW hmd d0' d1'
        go_wp2_with fail
        refine (isMode_no mode _ Hmd.out).mono ?_
        rintro e w' ⟨rfl, rfl⟩
        go_wp2_with fail
        go_ret
        exact ⟨rfl, by rw [HI.out]; exact HB.out⟩
      case pos =>
      obtain ⟨t, rfl⟩ : ∃ t : Nat, tx = (t : Int) := ⟨tx.toNat, by omega⟩
      have ht : t < 12 := by omega
      have Hmd := box hmd
      have HNy := box (HNx.out ⟨by show (0 : Int) ≤ t; omega, by show (t : Int) < 12; omega, hmd⟩ t rfl)
      have t0 := Blk.tabCell HW.out.1 ht
      have z0 := Blk.frozen HW.out.1 t
      have hts := Blk.lt HW.out.1
      have ht2 : (t : Int) < 12 := by omega
      have HSet : Box (LkT ((wr.setCell ⟨(I + 1), t, none⟩ (.int .i64 mode)).alloc (.cells #[.int .i64 (t : Int), .int .i64 mode] 137)) (I + 1) (upd g t mode) ∧ Below I w ((wr.setCell ⟨(I + 1), t, none⟩ (.int .i64 mode)).alloc (.cells #[.int .i64 (t : Int), .int .i64 mode] 137)) ∧ Blk ((wr.setCell ⟨(I + 1), t, none⟩ (.int .i64 mode)).alloc (.cells #[.int .i64 (t : Int), .int .i64 mode] 137)) I 134 [.int .i64 it, .slice (some ⟨b, off, none⟩) N hc, .slice qa M qc] ∧ LkT ((wr.setCell ⟨(I + 1), t, none⟩ (.int .i64 mode)).alloc (.cells #[.int .i64 (t : Int), .int .i64 mode] 137)) (I + 1 + 1) (fun _ => 0)) := ⟨Blk.alloc (LkT.set HR.out.2.1 t mode) _, (HR.out.2.2.1.setCell (by show I ≤ (I + 1); omega) _).alloc (by rw [World.size_setCell]; omega) _, (HR.out.2.2.2.1.other (p := ⟨(I + 1), t, none⟩) (by show I ≠ (I + 1); omega) _).alloc _, Blk.alloc (Blk.other HR.out.2.2.2.2 (p := ⟨(I + 1), t, none⟩) (by show I + 1 + 1 ≠ (I + 1); omega) _) _⟩
      cases d2 : decide (0 < g t) with
      | true =>
        have hres := HSn.out t rfl ht (of_decide_eq_true d2)
        subst hres
        have HB := box HW.out.2.1
        generalize g t = gt at *
        clear HW HSet hmd d0' d1' HNx HNy HSn HDm
        go_wp2_with fail
        refine (isMode_yes mode _ Hmd.out).mono ?_
        rintro e w' ⟨rfl, rfl⟩
        go_wp2_with fail
        go_ret
        exact ⟨rfl, by rw [HI.out]; exact HB.out⟩
      | false =>
        have HNz := box (HNy.out (of_decide_eq_false d2))
        generalize g t = gt at *
        clear HW hmd d0' d1' HNx HNy HSn HDm
        go_wp2_with fail
        refine (isMode_yes mode _ Hmd.out).mono ?_
        rintro e w' ⟨rfl, rfl⟩
        go_wp2_with fail
        go_roundw
        case rel => exact ⟨k + 1, _, by omega, by go_num, ⟨HNz.out, HSet.out⟩⟩
        case measure => simp [RowKit.intOf]; omega
    · obtain rfl : N = k := by omega
      have HOkh : Box (LkM.Okl held) := ⟨LkM.Seen.all (by rw [HN.out]; exact HR.out.1)⟩
      have HS2 := box HR.out.2.2
      clear HR
      have i1 := HS2.out.2.1.cell (i := 1) rfl
      have hIs := HS2.out.2.1.lt
      go_wp2_with fail
      go_loopw [50] (fun t50 wr => ∃ (i : Nat), i ≤ N ∧ t50 = .int .i64 (i : Int) ∧ Box (LkM.FitTo held i 0 ∧ Below I w wr ∧ Blk wr I 134 [.int .i64 it, .slice ha N hc, .slice qa M qc] ∧ LkT wr (I + 1 + 1) (fun _ => 0))) (fun t50 _ => N - (RowKit.intOf t50).toNat)
      case atStart => exact ⟨0, Nat.zero_le _, rfl, ⟨LkM.FitTo.start _, HS2.out⟩⟩
      case round =>
        obtain ⟨i, hi, rfl, HR⟩ := hrel
        clear HS2 i1 hIs
        have i1 := HR.out.2.2.1.cell (i := 1) rfl
        have hIs := HR.out.2.2.1.lt
        by_cases hit : i < N
        · have hil : i < held.length := by rw [HN.out]; exact hit
          obtain ⟨b, off, hab, hb, hrow⟩ := (HH.out.below HR.out.2.1 (by rw [HI.out]; exact Nat.le_refl _)).resolve_left (by intro h; have := HN.out; rw [h, List.length_nil] at this; omega)
          obtain ⟨c0, c1⟩ := hrow i hil
          have HMi : Box (1 ≤ held[i].mode ∧ held[i].mode ≤ 5) := ⟨(HOkh.out.dom _ (List.getElem_mem hil)).2.2⟩
          have HNxt : Box (∀ j, LkM.FitTo held i j → (hj : i + 1 + j < held.length) → LockM.fitB held[i].mode held[i + 1 + j].mode = true → LkM.FitTo held i (j + 1)) := ⟨fun j h hj hf => h.next hil hj hf⟩
          have HBd : Box (∀ j (hj : i + 1 + j < held.length), LockM.fitB held[i].mode held[i + 1 + j].mode = false → res = 4) := ⟨fun j hj hf => HBad.out fun h => LkM.fit_bad hil hj (by omega) hf h.fit⟩
          generalize held[i] = x at *
          obtain ⟨tx, mode⟩ := x
          dsimp only at c0 c1 HMi HNxt HBd
          obtain ⟨Ab, HAb⟩ : ∃ x, Box (wr.heap.size = x) := ⟨_, ⟨rfl⟩⟩
          have HW : Box (LkM.FitTo held i 0 ∧ Below I w (wr.alloc (.cells #[.int .i64 tx, .int .i64 mode] 137)) ∧ Blk (wr.alloc (.cells #[.int .i64 tx, .int .i64 mode] 137)) I 134 [.int .i64 it, .slice ha N hc, .slice qa M qc] ∧ LkT (wr.alloc (.cells #[.int .i64 tx, .int .i64 mode] 137)) (I + 1 + 1) (fun _ => 0) ∧ Blk (wr.alloc (.cells #[.int .i64 tx, .int .i64 mode] 137)) Ab 137 [.int .i64 tx, .int .i64 mode]) := ⟨HR.out.1, HR.out.2.1.alloc (by omega) _, HR.out.2.2.1.alloc _, Blk.alloc HR.out.2.2.2 _, by rw [← HAb.out]; exact Blk.new _ _ _⟩
          obtain ⟨W4, HW4⟩ : ∃ W4, Box (wr.alloc (.cells #[.int .i64 tx, .int .i64 mode] 137) = W4) := ⟨_, ⟨rfl⟩⟩
          rw [HW4.out] at HW
          subst hab
          clear hrow
          by_cases hcc : hc = i + 1
          · have hNi : N = i + 1 := by omega
            have HNw : Box (LkM.FitTo held (i + 1) 0) := ⟨HW.out.1.row (by rw [HN.out]; omega)⟩
            subst hcc
            obtain rfl : N = i + 1 := hNi
            go_wp2_with fail
            rw [HW4.out]
            clear HW4 i1
            refine wp_loop_rounds 1 ?_
            rw [rounds_succ]
            go_wp2_with fail
            go_roundw
            case rel => exact ⟨i + 1, by omega, by go_num, ⟨HNw.out, HW.out.2.1, HW.out.2.2.1, HW.out.2.2.2.1⟩⟩
            case measure => simp [RowKit.intOf]
          obtain ⟨R, HR2⟩ : ∃ R, Box (N - (i + 1) = R) := ⟨_, ⟨rfl⟩⟩
          have hRN : R ≤ N := by have := HR2.out; omega
          go_wp2_with fail
          rw [HAb.out, HW4.out, HR2.out]
          clear HW4 i1 c0 c1 hb hIs
          go_loopw [61] (fun t61 wr => ∃ (j : Nat), j ≤ R ∧ t61 = .int .i64 (j : Int) ∧ Box (LkM.FitTo held i j ∧ Below I w wr ∧ Blk wr I 134 [.int .i64 it, .slice (some ⟨b, off, none⟩) N hc, .slice qa M qc] ∧ LkT wr (I + 1 + 1) (fun _ => 0) ∧ Blk wr Ab 137 [.int .i64 tx, .int .i64 mode])) (fun t61 _ => R - (RowKit.intOf t61).toNat)
          case atStart => exact ⟨0, Nat.zero_le _, rfl, HW⟩
          case round =>
            obtain ⟨j, hj, rfl, HJ⟩ := hrel
            clear HW HR
            by_cases hjt : j < R
            · have hjl : i + 1 + j < held.length := by have := HN.out; have := HR2.out; omega
              obtain ⟨b2, off2, hab, hb, hrow⟩ := (HH.out.below HJ.out.2.1 (by rw [HI.out]; exact Nat.le_refl _)).resolve_left (by intro h; rw [h] at hjl; simp at hjl)
              injection hab with hab
              injection hab with hab1 hab2
              subst hab1 hab2
              obtain ⟨c0, c1⟩ := hrow (i + 1 + j) hjl
              rw [show off + (i + 1 + j) * 2 = off + (i + 1) * 2 + j * 2 by omega] at c0 c1
              have HMj : Box (1 ≤ held[i + 1 + j].mode ∧ held[i + 1 + j].mode ≤ 5) := ⟨(HOkh.out.dom _ (List.getElem_mem hjl)).2.2⟩
              have HNy := box (HNxt.out j HJ.out.1 hjl)
              have HBy := box (HBd.out j hjl)
              generalize held[i + 1 + j] = y at *
              obtain ⟨ytx, ym⟩ := y
              dsimp only at c0 c1 HMj HNy HBy
              have a1 := HJ.out.2.2.2.2.cell (i := 1) rfl
              have hAbs := HJ.out.2.2.2.2.lt
              have hIj := HJ.out.2.2.1.lt
              have HWn : Box (∀ n, Below I w ((wr.alloc (.cells #[.int .i64 ytx, .int .i64 ym] 137)).drewN n) ∧ Blk ((wr.alloc (.cells #[.int .i64 ytx, .int .i64 ym] 137)).drewN n) I 134 [.int .i64 it, .slice (some ⟨b, off, none⟩) N hc, .slice qa M qc] ∧ LkT ((wr.alloc (.cells #[.int .i64 ytx, .int .i64 ym] 137)).drewN n) (I + 1 + 1) (fun _ => 0) ∧ Blk ((wr.alloc (.cells #[.int .i64 ytx, .int .i64 ym] 137)).drewN n) Ab 137 [.int .i64 tx, .int .i64 mode]) := ⟨fun n => by
                have hd : Below wr.heap.size wr ((wr.alloc (.cells #[.int .i64 ytx, .int .i64 ym] 137)).drewN n) := ((Below.refl _ _).alloc (Nat.le_refl _) _).trans ⟨rfl, rfl, rfl, Nat.le_refl _, fun _ _ => rfl⟩
                exact ⟨HJ.out.2.1.trans (hd.mono (by omega)), HJ.out.2.2.1.after hd, Blk.after HJ.out.2.2.2.1 hd, HJ.out.2.2.2.2.after hd⟩⟩
              clear hrow HNxt HBd HJ
              have HF1 : ∀ z, LockM.fitsZ mode = z → ∀ wx, Calls Tryz.prog 106 #[.int .i64 mode] wx fun e w' => e = .returned (.int .i64 z) ∧ w' = wx := fun z h wx => (fits_in mode wx HMi.out).mono fun e w' ⟨h1, h2⟩ => ⟨by rw [h1, h], h2.symm⟩
              obtain ⟨HMi⟩ := HMi
              obtain ⟨HMj⟩ := HMj
              rcases LockM.five HMi with rfl | rfl | rfl | rfl | rfl
              · have HF := box (HF1 30 (by decide))
                clear HF1 HMi
                rcases LockM.five HMj with rfl | rfl | rfl | rfl | rfl
                · clear HMj
                  have HN1 := box (HNy.out (by decide))
                  have q1 : (bits BinOp.and IntKind.i64 15 1 == 0) = false := by kernel_rfl
                  go_wp2_with fail
                  go_quiet (first | (go_at_call 106; exact Calls.quiet_of_same (HF.out _)))
                  go_wp2_with fail
                  go_roundw
                  case rel => exact ⟨j + 1, by omega, by go_num, ⟨HN1.out, HWn.out nq⟩⟩
                  case measure => simp [RowKit.intOf]; omega
                · clear HMj
                  have HN1 := box (HNy.out (by decide))
                  have q1 : (bits BinOp.and IntKind.i64 7 1 == 0) = false := by kernel_rfl
                  go_wp2_with fail
                  go_quiet (first | (go_at_call 106; exact Calls.quiet_of_same (HF.out _)))
                  go_wp2_with fail
                  go_roundw
                  case rel => exact ⟨j + 1, by omega, by go_num, ⟨HN1.out, HWn.out nq⟩⟩
                  case measure => simp [RowKit.intOf]; omega
                · clear HMj
                  have HN1 := box (HNy.out (by decide))
                  have q1 : (bits BinOp.and IntKind.i64 3 1 == 0) = false := by kernel_rfl
                  go_wp2_with fail
                  go_quiet (first | (go_at_call 106; exact Calls.quiet_of_same (HF.out _)))
                  go_wp2_with fail
                  go_roundw
                  case rel => exact ⟨j + 1, by omega, by go_num, ⟨HN1.out, HWn.out nq⟩⟩
                  case measure => simp [RowKit.intOf]; omega
                · clear HMj
                  have HN1 := box (HNy.out (by decide))
                  have q1 : (bits BinOp.and IntKind.i64 1 1 == 0) = false := by kernel_rfl
                  go_wp2_with fail
                  go_quiet (first | (go_at_call 106; exact Calls.quiet_of_same (HF.out _)))
                  go_wp2_with fail
                  go_roundw
                  case rel => exact ⟨j + 1, by omega, by go_num, ⟨HN1.out, HWn.out nq⟩⟩
                  case measure => simp [RowKit.intOf]; omega
                · clear HMj
                  have hres := HBy.out (by decide)
                  subst hres
                  have q1 : (bits BinOp.and IntKind.i64 0 1 == 0) = true := by kernel_rfl
                  go_wp2_with fail
                  go_quiet (first | (go_at_call 106; exact Calls.quiet_of_same (HF.out _)))
                  go_wp2_with fail
                  go_ret
                  exact ⟨rfl, by rw [HI.out]; exact (HWn.out nq).1⟩
              · have HF := box (HF1 6 (by decide))
                clear HF1 HMi
                rcases LockM.five HMj with rfl | rfl | rfl | rfl | rfl
                · clear HMj
                  have HN1 := box (HNy.out (by decide))
                  have q1 : (bits BinOp.and IntKind.i64 3 1 == 0) = false := by kernel_rfl
                  go_wp2_with fail
                  go_quiet (first | (go_at_call 106; exact Calls.quiet_of_same (HF.out _)))
                  go_wp2_with fail
                  go_roundw
                  case rel => exact ⟨j + 1, by omega, by go_num, ⟨HN1.out, HWn.out nq⟩⟩
                  case measure => simp [RowKit.intOf]; omega
                · clear HMj
                  have HN1 := box (HNy.out (by decide))
                  have q1 : (bits BinOp.and IntKind.i64 1 1 == 0) = false := by kernel_rfl
                  go_wp2_with fail
                  go_quiet (first | (go_at_call 106; exact Calls.quiet_of_same (HF.out _)))
                  go_wp2_with fail
                  go_roundw
                  case rel => exact ⟨j + 1, by omega, by go_num, ⟨HN1.out, HWn.out nq⟩⟩
                  case measure => simp [RowKit.intOf]; omega
                · clear HMj
                  have hres := HBy.out (by decide)
                  subst hres
                  have q1 : (bits BinOp.and IntKind.i64 0 1 == 0) = true := by kernel_rfl
                  go_wp2_with fail
                  go_quiet (first | (go_at_call 106; exact Calls.quiet_of_same (HF.out _)))
                  go_wp2_with fail
                  go_ret
                  exact ⟨rfl, by rw [HI.out]; exact (HWn.out nq).1⟩
                · clear HMj
                  have hres := HBy.out (by decide)
                  subst hres
                  have q1 : (bits BinOp.and IntKind.i64 0 1 == 0) = true := by kernel_rfl
                  go_wp2_with fail
                  go_quiet (first | (go_at_call 106; exact Calls.quiet_of_same (HF.out _)))
                  go_wp2_with fail
                  go_ret
                  exact ⟨rfl, by rw [HI.out]; exact (HWn.out nq).1⟩
                · clear HMj
                  have hres := HBy.out (by decide)
                  subst hres
                  have q1 : (bits BinOp.and IntKind.i64 0 1 == 0) = true := by kernel_rfl
                  go_wp2_with fail
                  go_quiet (first | (go_at_call 106; exact Calls.quiet_of_same (HF.out _)))
                  go_wp2_with fail
                  go_ret
                  exact ⟨rfl, by rw [HI.out]; exact (HWn.out nq).1⟩
              · have HF := box (HF1 10 (by decide))
                clear HF1 HMi
                rcases LockM.five HMj with rfl | rfl | rfl | rfl | rfl
                · clear HMj
                  have HN1 := box (HNy.out (by decide))
                  have q1 : (bits BinOp.and IntKind.i64 5 1 == 0) = false := by kernel_rfl
                  go_wp2_with fail
                  go_quiet (first | (go_at_call 106; exact Calls.quiet_of_same (HF.out _)))
                  go_wp2_with fail
                  go_roundw
                  case rel => exact ⟨j + 1, by omega, by go_num, ⟨HN1.out, HWn.out nq⟩⟩
                  case measure => simp [RowKit.intOf]; omega
                · clear HMj
                  have hres := HBy.out (by decide)
                  subst hres
                  have q1 : (bits BinOp.and IntKind.i64 2 1 == 0) = true := by kernel_rfl
                  go_wp2_with fail
                  go_quiet (first | (go_at_call 106; exact Calls.quiet_of_same (HF.out _)))
                  go_wp2_with fail
                  go_ret
                  exact ⟨rfl, by rw [HI.out]; exact (HWn.out nq).1⟩
                · clear HMj
                  have HN1 := box (HNy.out (by decide))
                  have q1 : (bits BinOp.and IntKind.i64 1 1 == 0) = false := by kernel_rfl
                  go_wp2_with fail
                  go_quiet (first | (go_at_call 106; exact Calls.quiet_of_same (HF.out _)))
                  go_wp2_with fail
                  go_roundw
                  case rel => exact ⟨j + 1, by omega, by go_num, ⟨HN1.out, HWn.out nq⟩⟩
                  case measure => simp [RowKit.intOf]; omega
                · clear HMj
                  have hres := HBy.out (by decide)
                  subst hres
                  have q1 : (bits BinOp.and IntKind.i64 0 1 == 0) = true := by kernel_rfl
                  go_wp2_with fail
                  go_quiet (first | (go_at_call 106; exact Calls.quiet_of_same (HF.out _)))
                  go_wp2_with fail
                  go_ret
                  exact ⟨rfl, by rw [HI.out]; exact (HWn.out nq).1⟩
                · clear HMj
                  have hres := HBy.out (by decide)
                  subst hres
                  have q1 : (bits BinOp.and IntKind.i64 0 1 == 0) = true := by kernel_rfl
                  go_wp2_with fail
                  go_quiet (first | (go_at_call 106; exact Calls.quiet_of_same (HF.out _)))
                  go_wp2_with fail
                  go_ret
                  exact ⟨rfl, by rw [HI.out]; exact (HWn.out nq).1⟩
              · have HF := box (HF1 2 (by decide))
                clear HF1 HMi
                rcases LockM.five HMj with rfl | rfl | rfl | rfl | rfl
                · clear HMj
                  have HN1 := box (HNy.out (by decide))
                  have q1 : (bits BinOp.and IntKind.i64 1 1 == 0) = false := by kernel_rfl
                  go_wp2_with fail
                  go_quiet (first | (go_at_call 106; exact Calls.quiet_of_same (HF.out _)))
                  go_wp2_with fail
                  go_roundw
                  case rel => exact ⟨j + 1, by omega, by go_num, ⟨HN1.out, HWn.out nq⟩⟩
                  case measure => simp [RowKit.intOf]; omega
                · clear HMj
                  have hres := HBy.out (by decide)
                  subst hres
                  have q1 : (bits BinOp.and IntKind.i64 0 1 == 0) = true := by kernel_rfl
                  go_wp2_with fail
                  go_quiet (first | (go_at_call 106; exact Calls.quiet_of_same (HF.out _)))
                  go_wp2_with fail
                  go_ret
                  exact ⟨rfl, by rw [HI.out]; exact (HWn.out nq).1⟩
                · clear HMj
                  have hres := HBy.out (by decide)
                  subst hres
                  have q1 : (bits BinOp.and IntKind.i64 0 1 == 0) = true := by kernel_rfl
                  go_wp2_with fail
                  go_quiet (first | (go_at_call 106; exact Calls.quiet_of_same (HF.out _)))
                  go_wp2_with fail
                  go_ret
                  exact ⟨rfl, by rw [HI.out]; exact (HWn.out nq).1⟩
                · clear HMj
                  have hres := HBy.out (by decide)
                  subst hres
                  have q1 : (bits BinOp.and IntKind.i64 0 1 == 0) = true := by kernel_rfl
                  go_wp2_with fail
                  go_quiet (first | (go_at_call 106; exact Calls.quiet_of_same (HF.out _)))
                  go_wp2_with fail
                  go_ret
                  exact ⟨rfl, by rw [HI.out]; exact (HWn.out nq).1⟩
                · clear HMj
                  have hres := HBy.out (by decide)
                  subst hres
                  have q1 : (bits BinOp.and IntKind.i64 0 1 == 0) = true := by kernel_rfl
                  go_wp2_with fail
                  go_quiet (first | (go_at_call 106; exact Calls.quiet_of_same (HF.out _)))
                  go_wp2_with fail
                  go_ret
                  exact ⟨rfl, by rw [HI.out]; exact (HWn.out nq).1⟩
              · have HF := box (HF1 0 (by decide))
                clear HF1 HMi
                rcases LockM.five HMj with rfl | rfl | rfl | rfl | rfl
                · clear HMj
                  have hres := HBy.out (by decide)
                  subst hres
                  have q1 : (bits BinOp.and IntKind.i64 0 1 == 0) = true := by kernel_rfl
                  go_wp2_with fail
                  go_quiet (first | (go_at_call 106; exact Calls.quiet_of_same (HF.out _)))
                  go_wp2_with fail
                  go_ret
                  exact ⟨rfl, by rw [HI.out]; exact (HWn.out nq).1⟩
                · clear HMj
                  have hres := HBy.out (by decide)
                  subst hres
                  have q1 : (bits BinOp.and IntKind.i64 0 1 == 0) = true := by kernel_rfl
                  go_wp2_with fail
                  go_quiet (first | (go_at_call 106; exact Calls.quiet_of_same (HF.out _)))
                  go_wp2_with fail
                  go_ret
                  exact ⟨rfl, by rw [HI.out]; exact (HWn.out nq).1⟩
                · clear HMj
                  have hres := HBy.out (by decide)
                  subst hres
                  have q1 : (bits BinOp.and IntKind.i64 0 1 == 0) = true := by kernel_rfl
                  go_wp2_with fail
                  go_quiet (first | (go_at_call 106; exact Calls.quiet_of_same (HF.out _)))
                  go_wp2_with fail
                  go_ret
                  exact ⟨rfl, by rw [HI.out]; exact (HWn.out nq).1⟩
                · clear HMj
                  have hres := HBy.out (by decide)
                  subst hres
                  have q1 : (bits BinOp.and IntKind.i64 0 1 == 0) = true := by kernel_rfl
                  go_wp2_with fail
                  go_quiet (first | (go_at_call 106; exact Calls.quiet_of_same (HF.out _)))
                  go_wp2_with fail
                  go_ret
                  exact ⟨rfl, by rw [HI.out]; exact (HWn.out nq).1⟩
                · clear HMj
                  have hres := HBy.out (by decide)
                  subst hres
                  have q1 : (bits BinOp.and IntKind.i64 0 1 == 0) = true := by kernel_rfl
                  go_wp2_with fail
                  go_quiet (first | (go_at_call 106; exact Calls.quiet_of_same (HF.out _)))
                  go_wp2_with fail
                  go_ret
                  exact ⟨rfl, by rw [HI.out]; exact (HWn.out nq).1⟩
            · obtain rfl : R = j := by omega
              have HNw : Box (LkM.FitTo held (i + 1) 0) := ⟨HJ.out.1.row (by have := HN.out; have := HR2.out; omega)⟩
              have d0 : decide (R < R) = false := by simp
              go_wp2_with fail
              go_roundw
              case rel => exact ⟨i + 1, by omega, by go_num, ⟨HNw.out, HJ.out.2.1, HJ.out.2.2.1, HJ.out.2.2.2.1⟩⟩
              case measure => simp [RowKit.intOf]; omega
        · obtain rfl : N = i := by omega
          have HFt : Box (held.Pairwise fun a b => LockM.fitB a.mode b.mode = true) := ⟨HR.out.1.all HN.out.symm⟩
          have HS := box (show LkT wr (I + 1 + 1) (fun _ => 0) ∧ Below I w wr ∧ Blk wr I 134 [.int .i64 it, .slice ha N hc, .slice qa M qc] from ⟨HR.out.2.2.2, HR.out.2.1, HR.out.2.2.1⟩)
          clear HR
          have i2 := HS.out.2.2.cell (i := 2) rfl
          go_wp2_with fail
          clear i1 i2 hIs
          go_loopw [78] (fun t78 wr => ∃ (k : Nat) (g : Nat → Int), k ≤ M ∧ t78 = .int .i64 (k : Int) ∧ Box (LkM.Seen queue k g ∧ LkT wr (I + 1 + 1) g ∧ Below I w wr ∧ Blk wr I 134 [.int .i64 it, .slice ha N hc, .slice qa M qc])) (fun t78 _ => M - (RowKit.intOf t78).toNat)
          case atStart => exact ⟨0, fun _ => 0, Nat.zero_le _, rfl, ⟨LkM.Seen.start _, HS.out⟩⟩
          case round =>
            obtain ⟨k, g, hk, rfl, HR⟩ := hrel
            clear HS
            by_cases hlt : k < M
            · have hkl : k < queue.length := by rw [HM.out]; exact hlt
              obtain ⟨b, off, hab, hb, hrow⟩ := (HQ.out.below HR.out.2.2.1 (by rw [HI.out]; exact Nat.le_refl _)).resolve_left (by intro h; have := HM.out; rw [h, List.length_nil] at this; omega)
              obtain ⟨c0, c1⟩ := hrow k hkl
              have HDm : Box (¬ LkM.Dom queue[k] → res = 4) := ⟨fun h => HBad.out fun h2 => LkM.bad_dom hkl h h2.queue⟩
              have HSn : Box (∀ t : Nat, queue[k].tx = (t : Int) → t < 12 → 0 < g t → res = 4) := ⟨fun t h1 h2 h3 => HBad.out fun h4 => HR.out.1.bad hkl h1 h2 h3 h4.queue⟩
              have HNx : Box (LkM.Dom queue[k] → ∀ t : Nat, queue[k].tx = (t : Int) → ¬ 0 < g t → LkM.Seen queue (k + 1) (upd g t queue[k].mode)) := ⟨fun h1 t h2 h3 => HR.out.1.next hkl h1 h2 h3⟩
              have hbs := Blk.lt HR.out.2.1
              generalize queue[k] = x at *
              obtain ⟨tx, mode⟩ := x
              dsimp only at c0 c1 HSn HNx
              have HW : Box (LkT (wr.alloc (.cells #[.int .i64 tx, .int .i64 mode] 137)) (I + 1 + 1) g ∧ Below I w (wr.alloc (.cells #[.int .i64 tx, .int .i64 mode] 137)) ∧ Blk (wr.alloc (.cells #[.int .i64 tx, .int .i64 mode] 137)) I 134 [.int .i64 it, .slice ha N hc, .slice qa M qc]) := ⟨Blk.alloc HR.out.2.1 _, HR.out.2.2.1.alloc (by omega) _, HR.out.2.2.2.alloc _⟩
              clear hrow
              subst hab
              cases d0 : decide (tx < 0) with
              | true =>
                have hres := HDm.out (fun h => by have := of_decide_eq_true d0; have := h.1; dsimp only at this; omega)
                subst hres
                have HB := box HW.out.2.1
                clear HW
                go_wp2_with fail
                go_ret
                exact ⟨rfl, by rw [HI.out]; exact HB.out⟩
              | false =>
              have d0' := of_decide_eq_false d0
              cases d1 : decide ((12 : Int) ≤ tx) with
              | true =>
                have hres := HDm.out (fun h => by have := of_decide_eq_true d1; have := h.2.1; dsimp only at this; omega)
                subst hres
                have HB := box HW.out.2.1
                clear HW
                go_wp2_with fail
                go_ret
                exact ⟨rfl, by rw [HI.out]; exact HB.out⟩
              | false =>
              have d1' := of_decide_eq_false d1
              by_cases hmd : 1 ≤ mode ∧ mode ≤ 5
              case neg =>
                have hres := HDm.out (fun h => hmd h.2.2)
                subst hres
                have HB := box HW.out.2.1
                have Hmd := box hmd
                clear HW hmd d0' d1'
                go_wp2_with fail
                refine (isMode_no mode _ Hmd.out).mono ?_
                rintro e w' ⟨rfl, rfl⟩
                go_wp2_with fail
                go_ret
                exact ⟨rfl, by rw [HI.out]; exact HB.out⟩
              case pos =>
              obtain ⟨t, rfl⟩ : ∃ t : Nat, tx = (t : Int) := ⟨tx.toNat, by omega⟩
              have ht : t < 12 := by omega
              have Hmd := box hmd
              have HNy := box (HNx.out ⟨by show (0 : Int) ≤ t; omega, by show (t : Int) < 12; omega, hmd⟩ t rfl)
              have t0 := Blk.tabCell HW.out.1 ht
              have z0 := Blk.frozen HW.out.1 t
              have hts := Blk.lt HW.out.1
              have ht2 : (t : Int) < 12 := by omega
              have HSet : Box (LkT ((wr.setCell ⟨(I + 1 + 1), t, none⟩ (.int .i64 mode)).alloc (.cells #[.int .i64 (t : Int), .int .i64 mode] 137)) (I + 1 + 1) (upd g t mode) ∧ Below I w ((wr.setCell ⟨(I + 1 + 1), t, none⟩ (.int .i64 mode)).alloc (.cells #[.int .i64 (t : Int), .int .i64 mode] 137)) ∧ Blk ((wr.setCell ⟨(I + 1 + 1), t, none⟩ (.int .i64 mode)).alloc (.cells #[.int .i64 (t : Int), .int .i64 mode] 137)) I 134 [.int .i64 it, .slice ha N hc, .slice (some ⟨b, off, none⟩) M qc]) := ⟨Blk.alloc (LkT.set HR.out.2.1 t mode) _, (HR.out.2.2.1.setCell (by show I ≤ (I + 1 + 1); omega) _).alloc (by rw [World.size_setCell]; omega) _, (HR.out.2.2.2.other (p := ⟨(I + 1 + 1), t, none⟩) (by show I ≠ (I + 1 + 1); omega) _).alloc _⟩
              cases d2 : decide (0 < g t) with
              | true =>
                have hres := HSn.out t rfl ht (of_decide_eq_true d2)
                subst hres
                have HB := box HW.out.2.1
                generalize g t = gt at *
                clear HW HSet hmd d0' d1' HNx HNy HSn HDm
                go_wp2_with fail
                refine (isMode_yes mode _ Hmd.out).mono ?_
                rintro e w' ⟨rfl, rfl⟩
                go_wp2_with fail
                go_ret
                exact ⟨rfl, by rw [HI.out]; exact HB.out⟩
              | false =>
                have HNz := box (HNy.out (of_decide_eq_false d2))
                generalize g t = gt at *
                clear HW hmd d0' d1' HNx HNy HSn HDm
                go_wp2_with fail
                refine (isMode_yes mode _ Hmd.out).mono ?_
                rintro e w' ⟨rfl, rfl⟩
                go_wp2_with fail
                go_roundw
                case rel => exact ⟨k + 1, _, by omega, by go_num, ⟨HNz.out, HSet.out⟩⟩
                case measure => simp [RowKit.intOf]; omega
            · obtain rfl : M = k := by omega
              have HOkq : Box (LkM.Okl queue) := ⟨LkM.Seen.all (by rw [HM.out]; exact HR.out.1)⟩
              have HS9 := box HR.out.2.2
              clear HR
              have i1 := HS9.out.2.cell (i := 1) rfl
              have i2 := HS9.out.2.cell (i := 2) rfl
              have i0 := HS9.out.2.cell (i := 0) rfl
              have hIs := HS9.out.2.lt
              by_cases hM0 : M = 0
              · have HRs : Box (res = 0) := ⟨HOk.out ⟨HOkh.out, HFt.out, HOkq.out, fun a r e => by
                  have e : queue = a :: r := e
                  have := HM.out
                  rw [e, List.length_cons] at this
                  omega⟩⟩
                have d5 : decide (0 < M) = false := by simp; omega
                have d6 : decide (M < M) = false := by simp
                go_wp2_with fail
                go_quiet (fail)
                go_wp2_with fail
                go_ret
                exact ⟨by rw [HRs.out]; rfl, by rw [HI.out]; exact HS9.out.1.trans ⟨rfl, rfl, rfl, Nat.le_refl _, fun _ _ => rfl⟩⟩
              · have hq0 : 0 < queue.length := by rw [HM.out]; omega
                obtain ⟨b, off, hab, hb, hrow⟩ := (HQ.out.below HS9.out.1 (by rw [HI.out]; exact Nat.le_refl _)).resolve_left (by intro h; rw [h] at hq0; simp at hq0)
                obtain ⟨c0, c1⟩ := hrow 0 hq0
                rw [Nat.zero_mul, Nat.add_zero] at c0 c1
                have HCn : Box (∀ wx, Below I w wx → Calls Tryz.prog 75 #[.agg #[.int .i64 it, .slice ha N hc, .slice qa M qc], .agg #[.int .i64 queue[0].tx, .int .i64 queue[0].mode]] wx fun e w' => e = .returned (.bool (LkM.can held queue[0])) ∧ Below wx.heap.size wx w') := ⟨fun wx hb => by
                  have := can_any it held ha hc qa M qc queue[0] wx (HH.out.below hb (by rw [HI.out]; exact Nat.le_refl _)) (fun h hh => (HOkh.out.dom h hh).2.2) (HOkq.out.dom _ (List.getElem_mem hq0)).2.2 (by rw [HN.out]; omega)
                  rwa [HN.out] at this⟩
                have HRs : Box (LkM.can held queue[0] = false → res = 0) := ⟨fun hc => HOk.out ⟨HOkh.out, HFt.out, HOkq.out, fun a r e => by
                  have e : queue = a :: r := e
                  subst e
                  exact hc⟩⟩
                have HR4 : Box (LkM.can held queue[0] = true → res = 4) := ⟨fun hc => HBad.out fun h => by
                  have := h.first queue[0] (queue.drop 1) (by
                    have := List.drop_eq_getElem_cons hq0
                    rwa [List.drop_zero] at this)
                  dsimp only at this
                  rw [this] at hc
                  cases hc⟩
                generalize queue[0] = x at *
                obtain ⟨tx, mode⟩ := x
                dsimp only at c0 c1 HCn
                generalize LkM.can held ⟨tx, mode⟩ = c at *
                have d5 : decide (0 < M) = true := by simp; omega
                have d6 : decide (M < M) = false := by simp
                have hM1 : 0 < M := by omega
                subst hab
                clear hrow
                go_wp2_with fail
                go_region_with (go_at_call 75; refine (HCn.out _ (by first | exact HS9.out.1 | exact HS9.out.1.drew)).mono ?_; rintro e w' ⟨rfl, hb'⟩)
                all_goals (have HBf : Box (Below I w w') := ⟨by
                  first
                    | exact HS9.out.1.trans (hb'.mono (Nat.le_of_lt hIs))
                    | exact HS9.out.1.drew.trans (hb'.mono (Nat.le_of_lt hIs))⟩)
                all_goals (clear hb' HS9 HCn)
                all_goals (cases c)
                all_goals (first | (have hres := box (HRs.out rfl)) | (have hres := box (HR4.out rfl)))
                all_goals
                  go_wp2_with fail
                  go_ret
                  exact ⟨by rw [hres.out]; rfl, by rw [HI.out]; first | exact HBf.out | exact HBf.out.drew⟩
end Go.Proofs.YtnnkejolfhhmlaaGreat
