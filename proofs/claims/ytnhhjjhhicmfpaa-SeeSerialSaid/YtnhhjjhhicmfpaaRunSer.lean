/- run.Serial: what it answers. -/
import Derived.Test.YtnhhjjhhicmfpaaTurnM
import Derived.Test.YtnhhjjhhicmfpaaRunEd
import Derived.Test.YtnhhjjhhicmfpaaSlDelF
import Derived.Test.YtnhhjjhhicmfpaaGrOW
namespace Go.Proofs.Ytnhhjjhhicmfpaa
section
open Go.RowKit Go.Lib
namespace RunM
theorem sub2_get {α : Type} {x y : α} : ∀ {l : List α}, [x, y].Sublist l ↔ ∃ i j : Nat, i < j ∧ l[i]? = some x ∧ l[j]? = some y
  | [] => by simp
  | a :: r => by
    rw [sub2_cons, sub2_get]
    constructor
    · rintro (⟨i, j, h, h1, h2⟩ | ⟨rfl, h⟩)
      · exact ⟨i + 1, j + 1, by omega, by simpa using h1, by simpa using h2⟩
      · obtain ⟨j, hj, e⟩ := List.mem_iff_getElem.1 h
        exact ⟨0, j + 1, by omega, by simp, by simp [hj, e]⟩
    · rintro ⟨i, j, h, h1, h2⟩
      cases j with
      | zero => omega
      | succ j =>
        cases i with
        | zero =>
          right
          refine ⟨by simpa using h1.symm, ?_⟩
          rw [List.getElem?_cons_succ] at h2
          exact List.mem_of_getElem? h2
        | succ i => exact Or.inl ⟨i, j, by omega, by simpa using h1, by simpa using h2⟩
theorem isTo_iff {l : List OpM} {a b : Nat} : isTo l l.length a b = true ↔ ∃ x y, [x, y].Sublist l ∧ hitE l x y a b = true := by
  unfold isTo isAt
  simp only [List.any_eq_true, List.mem_range, Bool.and_eq_true, decide_eq_true_eq]
  constructor
  · rintro ⟨i, hi, j, hj, hij, h⟩
    refine ⟨_, _, sub2_get.2 ⟨i, j, hij, ?_, ?_⟩, h⟩
    · rw [List.getElem?_eq_getElem hi, getElem!_pos l i hi]
    · rw [List.getElem?_eq_getElem hj, getElem!_pos l j hj]
  · rintro ⟨x, y, hs, h⟩
    obtain ⟨i, j, hij, h1, h2⟩ := sub2_get.1 hs
    obtain ⟨hi, e1⟩ := List.getElem?_eq_some_iff.1 h1
    obtain ⟨hj, e2⟩ := List.getElem?_eq_some_iff.1 h2
    refine ⟨i, hi, j, hj, hij, ?_⟩
    rw [getElem!_pos l i hi, getElem!_pos l j hj, e1, e2]
    exact h
theorem E_edges {l : List OpM} {a b : Nat} (ha : a < 12) (hb : b < 12) : GrM.E (edges l) a b = true ↔ ∃ x y, [x, y].Sublist l ∧ hitE l x y a b = true := by
  rw [GrM.E_iff, mem_edges, ← isTo_iff]
  constructor
  · rintro ⟨a', b', _, _, e, h⟩
    injection e with e1 e2
    obtain rfl : a = a' := by omega
    obtain rfl : b = b' := by omega
    exact h
  · intro h; exact ⟨a, b, ha, hb, rfl, h⟩
theorem edges_check (l : List OpM) : GrM.check 12 (edges l) = 0 := by
  have hl : (edges l).length ≤ 144 := edgesTo_len l 12
  unfold GrM.check
  rw [if_neg (by omega), if_neg (by omega), if_pos]
  unfold GrM.formOk
  rw [List.all_eq_true]
  intro e he
  obtain ⟨a, b, ha, hb, rfl, _⟩ := mem_edges.1 he
  exact decide_eq_true (by simp only; omega)
/-- Whoever ends with a Commit. -/
theorem done_iff {l : List OpM} (h : check l = 0) {t : Nat} : endB l 3 t = true ↔ (⟨(t : Int), 3, 0⟩ : OpM) ∈ l := by
  have hb := ((check_iff l).1 h).2.1
  unfold endB
  rw [List.any_eq_true]
  constructor
  · rintro ⟨o, ho, h1⟩
    have h2 := bad_zero (hb o ho)
    rw [Bool.and_eq_true, beq_iff_eq, beq_iff_eq] at h1
    have h3 := h2.2.2.2.2.2.2 (by omega)
    obtain ⟨x, y, z⟩ := o
    simp only at h1 h3
    rw [← h1.1, ← h1.2, ← h3]; exact ho
  · intro h; exact ⟨_, h, by simp⟩
theorem mem_ofCom {l : List OpM} {o : OpM} : o ∈ ofCom l ↔ o ∈ l ∧ (⟨o.tx, 3, 0⟩ : OpM) ∈ l := by
  unfold ofCom; rw [List.mem_filter, decide_eq_true_eq]
theorem mem_ofCom_done {l : List OpM} (h : check l = 0) {o : OpM} : o ∈ ofCom l ↔ o ∈ l ∧ endB l 3 o.tx.toNat = true := by
  rw [mem_ofCom]
  constructor
  · rintro ⟨h1, h2⟩
    have := bad_zero (((check_iff l).1 h).2.1 o h1)
    refine ⟨h1, (done_iff h).2 ?_⟩
    rwa [show ((o.tx.toNat : Nat) : Int) = o.tx by omega]
  · rintro ⟨h1, h2⟩
    have := bad_zero (((check_iff l).1 h).2.1 o h1)
    have h3 := (done_iff h).1 h2
    rw [show ((o.tx.toNat : Nat) : Int) = o.tx by omega] at h3
    exact ⟨h1, h3⟩
/-- An edge is a clash of two that commit, the one ahead of the other. -/
theorem E_com {l : List OpM} (h : check l = 0) {a b : Nat} (ha : a < 12) (hb : b < 12) : GrM.E (edges l) a b = true ↔ ∃ x y, [x, y].Sublist (ofCom l) ∧ clash x y = true ∧ x.tx = (a : Int) ∧ y.tx = (b : Int) := by
  rw [E_edges ha hb]
  unfold hitE
  constructor
  · rintro ⟨x, y, hs, hc⟩
    simp only [Bool.and_eq_true, beq_iff_eq] at hc
    obtain ⟨⟨⟨⟨h1, h2⟩, h3⟩, h4⟩, h5⟩ := hc
    refine ⟨x, y, ?_, h1, h4, h5⟩
    have hx := (mem_ofCom_done h).2 ⟨hs.subset (by simp : x ∈ [x, y]), h2⟩
    have hy := (mem_ofCom_done h).2 ⟨hs.subset (by simp : y ∈ [x, y]), h3⟩
    have := hs.filter fun o => decide ((⟨o.tx, 3, 0⟩ : OpM) ∈ l)
    rwa [List.filter_cons, if_pos (List.mem_filter.1 hx).2, List.filter_cons, if_pos (List.mem_filter.1 hy).2, List.filter_nil] at this
  · rintro ⟨x, y, hs, h1, h4, h5⟩
    have hx := (mem_ofCom_done h).1 (hs.subset (by simp : x ∈ [x, y]))
    have hy := (mem_ofCom_done h).1 (hs.subset (by simp : y ∈ [x, y]))
    refine ⟨x, y, hs.trans List.filter_sublist, ?_⟩
    simp only [Bool.and_eq_true, beq_iff_eq]
    exact ⟨⟨⟨⟨h1, hx.2⟩, hy.2⟩, h4⟩, h5⟩
/-- What run.Serial tells: who committed, in the order of the graph. -/
def serialOf (l : List OpM) (r : List Nat) : List Int := (r.filter fun t => endB l 3 t).map fun t : Nat => (t : Int)
theorem all_in {n : Nat} {l : List EgM} {r : List Nat} (h : GrM.Out n l r) (hl : r.length = n) : ∀ x, x < n → x ∈ r := by
  intro x hx
  by_cases hxr : x ∈ r
  · exact hxr
  · have := List.Nodup.length_le_of_subset (l₁ := x :: r) (List.nodup_cons.2 ⟨hxr, h.nodup⟩) (l₂ := List.range n) (by
      intro y hy
      rcases List.mem_cons.1 hy with rfl | hy
      · exact List.mem_range.2 hx
      · exact List.mem_range.2 (h.lt y hy))
    simp at this; omega
theorem serial_nodup {l : List OpM} {r : List Nat} (h : r.Nodup) : (serialOf l r).Nodup := by
  unfold serialOf
  refine List.pairwise_map.2 ((h.sublist List.filter_sublist).imp ?_)
  intro a b hab e
  exact hab (by omega)
theorem serial_yes {l : List OpM} {r : List Nat} (h : check l = 0) (ho : GrM.order 12 (edges l) = some r) :
    likeOk (ofCom l) (StampM.inTurn (ofCom l) (serialOf l r)) = 0 ∧ like (ofCom l) (StampM.inTurn (ofCom l) (serialOf l r)) = true := by
  obtain ⟨h1, h2⟩ := GrM.order_ok ho
  have hm := ofCom_check h
  have hall := all_in h1 h2
  have hin : ∀ o ∈ ofCom l, o.tx ∈ serialOf l r := by
    intro o hom
    obtain ⟨h3, h4⟩ := (mem_ofCom_done h).1 hom
    have := bad_zero (((check_iff l).1 h).2.1 o h3)
    unfold serialOf
    rw [List.mem_map]
    exact ⟨o.tx.toNat, List.mem_filter.2 ⟨hall _ (by omega), h4⟩, by omega⟩
  obtain ⟨h5, h6⟩ := like_turn hm (serial_nodup h1.nodup) hin
  refine ⟨h5, h6.2 fun a b hab hc => ?_⟩
  have ha := (mem_ofCom_done h).1 (hab.subset (by simp : a ∈ [a, b]))
  have hb := (mem_ofCom_done h).1 (hab.subset (by simp : b ∈ [a, b]))
  have ba := bad_zero (((check_iff l).1 h).2.1 a ha.1)
  have bb := bad_zero (((check_iff l).1 h).2.1 b hb.1)
  obtain ⟨x, hx⟩ := Int.eq_ofNat_of_zero_le ba.1
  obtain ⟨y, hy⟩ := Int.eq_ofNat_of_zero_le bb.1
  have hE := (E_com h (by omega : x < 12) (by omega : y < 12)).2 ⟨a, b, hab, hc, hx, hy⟩
  have i1 := List.idxOf_lt_length_of_mem (hall x (by omega))
  have i2 := List.idxOf_lt_length_of_mem (hall y (by omega))
  have hlt := h1.forward _ _ i1 i2 (by rw [List.getElem_idxOf, List.getElem_idxOf]; exact hE)
  have hs : [x, y].Sublist r := sub2_get.2 ⟨_, _, hlt, by rw [List.getElem?_eq_getElem i1, List.getElem_idxOf], by rw [List.getElem?_eq_getElem i2, List.getElem_idxOf]⟩
  have hs2 := (hs.filter fun t => endB l 3 t).map fun t : Nat => (t : Int)
  rw [hx, hy]
  rw [hx] at ha
  rw [hy] at hb
  have ea : endB l 3 x = true := ha.2
  have eb : endB l 3 y = true := hb.2
  rw [List.filter_cons, if_pos ea, List.filter_cons, if_pos eb, List.filter_nil] at hs2
  exact hs2
theorem sub2_trans {α : Type} {x y z : α} {L : List α} (hn : L.Nodup) (h1 : [x, y].Sublist L) (h2 : [y, z].Sublist L) : [x, z].Sublist L := by
  obtain ⟨i, j, hij, e1, e2⟩ := sub2_get.1 h1
  obtain ⟨j', k, hjk, e3, e4⟩ := sub2_get.1 h2
  obtain ⟨l1, f1⟩ := List.getElem?_eq_some_iff.1 e2
  obtain ⟨l2, f2⟩ := List.getElem?_eq_some_iff.1 e3
  obtain rfl : j = j' := (List.getElem_inj hn).1 (f1.trans f2.symm)
  exact sub2_get.2 ⟨i, k, by omega, e1, e4⟩
/-- With a loop no order of all makes it. -/
theorem serial_no {l : List OpM} {s : List Int} (h : check l = 0) (ho : GrM.order 12 (edges l) = none) (hs : s.Nodup) (hall : ∀ t : Nat, t < 12 → (t : Int) ∈ s) :
    likeOk (ofCom l) (StampM.inTurn (ofCom l) s) = 0 ∧ like (ofCom l) (StampM.inTurn (ofCom l) s) = false := by
  have hm := ofCom_check h
  obtain ⟨h5, h6⟩ := like_turn hm hs (fun o ho => by
    have := bad_zero (((check_iff _).1 hm).2.1 o ho)
    have h2 := hall o.tx.toNat (by omega)
    rwa [show ((o.tx.toNat : Nat) : Int) = o.tx by omega] at h2)
  refine ⟨h5, ?_⟩
  cases hlk : like (ofCom l) (StampM.inTurn (ofCom l) s) with
  | false => rfl
  | true =>
    exfalso
    have h7 := h6.1 hlk
    obtain ⟨a, ha, hp⟩ := GrM.order_none_iff.1 ho
    have step : ∀ {a b : Nat}, a < 12 → b < 12 → GrM.E (edges l) a b = true → [(a : Int), (b : Int)].Sublist s := by
      intro a b ha hb hE
      obtain ⟨x, y, h1, h2, e1, e2⟩ := (E_com h ha hb).1 hE
      have := h7 x y h1 h2
      rwa [e1, e2] at this
    have key : ∀ {a b : Nat}, a < 12 → GrM.Path 12 (edges l) a b → [(a : Int), (b : Int)].Sublist s := by
      intro a b ha hp
      induction hp with
      | one h1 h2 => exact step ha h1 h2
      | more h0 h1 h2 ih => exact sub2_trans hs ih (step h0.lt h1 h2)
    have := key ha hp
    exact sub2_anti hs this this
end RunM
end
section
open Go.RowKit Go.Lib

/-- Function g, with lb behind, tells p of a number of l and turns nothing, in world W. -/
def TellsL (g : Nat) (lb : Array Value) (p : Int → Bool) (l : List Int) (W : World) : Prop := ∀ x ∈ l, Calls Try.prog g (#[.int .i64 x] ++ lb) W fun e w' => e = .returned (.bool (p x)) ∧ W = w'

set_option maxRecDepth 20000 in
set_option maxHeartbeats 1000000 in
theorem indexIn_any (l : List Int) (ao : Option Addr) (cap g : Nat) (lb : Array Value) (p : Int → Bool) (w : World) (h : IntsAt w ao l) (hn : l.length ≤ 9000000000000000000) (hp : TellsL g lb p l w)
    (eg : ∀ args w, (callFunc g args).run Try.prog w = .ok (.enter g args) w) :
    Calls Try.prog 71 #[.slice ao l.length cap, .func (.func g) #[] lb] w fun e w' => e = .returned (.int .i64 (IntsM.find p l)) ∧ w = w' := by
  have H := box h; have Hp := box hp
  clear h hp
  go_enter Try.func71, Try.ntmps71
  go_wp2_with fail
  go_loop [8] (fun t8 => ∃ k : Nat, k ≤ l.length ∧ t8 = .int .i64 (k : Int) ∧ Box (∀ j (h : j < l.length), j < k → p l[j] = false)) (fun t8 => l.length - (intOf t8).toNat)
  case atStart => exact ⟨0, Nat.zero_le _, rfl, ⟨fun j _ h => by omega⟩⟩
  case round =>
    obtain ⟨k, hk, rfl, Hall⟩ := hrel
    by_cases hlt : k < l.length
    · obtain ⟨b, off, rfl, hb, hrow⟩ := (H.out.resolve_left (by intro h; rw [h] at hlt; simp at hlt))
      have hc := hrow k hlt
      have Hc := box (Hp.out l[k] (List.getElem_mem hlt))
      have HF : Box (p l[k] = true → IntsM.find p l = (k : Int)) := ⟨fun h => by
        have : l.findIdx p = k := by
          rw [List.findIdx_eq (by omega)]
          exact ⟨h, fun j hj => Hall.out j (by omega) hj⟩
        unfold IntsM.find
        rw [this, if_pos hlt]⟩
      have HN : Box (p l[k] = false → ∀ j (h : j < l.length), j < k + 1 → p l[j] = false) := ⟨fun h j hj h2 => by
        by_cases e : j = k
        · subst e; exact h
        · exact Hall.out j hj (by omega)⟩
      generalize l[k] = x at *
      clear hrow
      go_wp2_with fail
      refine (Hc.out).mono ?_
      rintro e w' ⟨rfl, rfl⟩
      generalize p x = v at *
      cases v with
      | true =>
        go_wp2_with fail
        go_ret
        exact ⟨by rw [HF.out (by simp)]; rfl, rfl⟩
      | false =>
        go_wp2_with fail
        go_round
        case rel => exact ⟨k + 1, hlt, by go_num, ⟨HN.out (by simp)⟩⟩
        case measure => simp [intOf]; omega
    · have HF : Box (IntsM.find p l = -1) := ⟨by
        unfold IntsM.find
        rw [if_neg]
        intro h
        have h2 := List.findIdx_getElem (w := h)
        have := Hall.out _ h (by omega)
        rw [this] at h2; simp at h2⟩
      go_wp2_with fail
      go_ret
      exact ⟨by rw [HF.out]; rfl, rfl⟩

set_option maxRecDepth 20000 in
set_option maxHeartbeats 2000000 in
theorem deleteIn_any (l : List Int) (v : Value) (base g : Nat) (lb : Array Value) (p : Int → Bool) (w : World) (h : w.ownsRow base 3 1 v l.length (intVals l)) (hn : l.length ≤ 9000000000000000000)
    (hp : ∀ W, w.grownBy W v.ownBlock → TellsL g lb p l W) (eg : ∀ args w, (callFunc g args).run Try.prog w = .ok (.enter g args) w) :
    Calls Try.prog 36 #[v, .func (.func g) #[] lb] w (IntsM.DelPost base v (l.filter (fun x => !p x)) w) := by
  obtain ⟨ao, cap, rfl, _, hat, hnil, hcap⟩ := IntsAt.own h
  have H := box h; have Hp := box hp; have Hat := box hat
  have Hfind := box (fun w (h : IntsAt w ao l) (hp : TellsL g lb p l w) => indexIn_any l ao cap g lb p w h hn hp eg)
  clear h hp hat hnil
  by_cases hf : l.findIdx p < l.length
  case neg =>
    have HE : Box (IntsM.find p l = -1) := ⟨by unfold IntsM.find; rw [if_neg hf]⟩
    have HF : Box (l.filter (fun x => !p x) = l) := ⟨by
      rw [List.filter_eq_self]
      intro x hx
      have h1 : l.findIdx p = l.length := by have := List.findIdx_le_length (p := p) (xs := l); omega
      rw [List.findIdx_eq_length] at h1
      rw [h1 x hx]; rfl⟩
    clear hf
    go_enter Try.func36, Try.ntmps36
    go_wp2_with fail
    refine (Hfind.out _ Hat.out (Hp.out _ (grownBy_refl _ _))).mono ?_
    rintro e w' ⟨rfl, rfl⟩
    rw [HE.out]
    go_wp2_with fail
    go_ret
    refine ⟨_, rfl, rfl, ?_, grownBy_refl _ _⟩
    rw [HF.out]; exact H.out
  obtain ⟨k0, HK⟩ : ∃ k0, Box (l.findIdx p = k0) := ⟨_, ⟨rfl⟩⟩
  rw [HK.out] at hf
  have HE : Box (IntsM.find p l = (k0 : Int)) := ⟨by unfold IntsM.find; rw [HK.out, if_pos hf]⟩
  have HS := box (IntsM.find_start HK.out hf)
  obtain ⟨b0, off0, rfl, hb0, _⟩ := (Hat.out.resolve_left (by intro h; rw [h] at hf; simp at hf))
  obtain ⟨g0, cap0, hv, hg1, hg2, hg3⟩ := ownsRow_shape H.out (by simp)
  simp only [Value.slice.injEq, Option.some.injEq, Addr.mk.injEq, and_true, true_and] at hv
  obtain ⟨⟨rfl, rfl⟩, rfl⟩ := hv
  have q0 : ((k0 : Int) == -1) = false := by simp
  go_enter Try.func36, Try.ntmps36
  go_wp2_with fail
  refine (Hfind.out _ Hat.out (Hp.out _ (grownBy_refl _ _))).mono ?_
  rintro e w' ⟨rfl, rfl⟩
  rw [HE.out]
  go_wp2_with fail
  go_loopw [5, 6, 7] (fun t5 t6 _ wr => IntsM.DRel p l base b0 cap w t5 t6 wr) (fun _ t6 _ _ => l.length - (intOf t6).toNat)
  case atStart => exact ⟨k0, k0 + 1, l, rfl, by go_num, HS.out, H.out, grownBy_refl _ _⟩
  case round =>
    obtain ⟨i, j, ys, rfl, rfl, hd, hown, hgr⟩ := hrel
    have HD := box hd; have Hown := box hown; have Hgr := box hgr
    have hij := hd.lt; have hjl := hd.le
    have hyl := box hd.len
    clear hd hown hgr
    by_cases hlt : j < l.length
    · have hcj : wr.cell? ⟨b0, j, none⟩ = some (.int .i64 l[j]) := by
        rw [Hown.out.cellAt j (by omega), intVals_get (by rw [hyl.out]; exact hlt)]
        have := HD.out.at hlt
        rw [List.getElem?_eq_getElem (by rw [hyl.out]; exact hlt)] at this
        rw [Option.some.inj this]
      have hci : wr.cell? ⟨b0, i, none⟩ = some (.int .i64 (ys[i]'(by rw [hyl.out]; omega))) := by
        rw [Hown.out.cellAt i (by omega), intVals_get]
      have hfi := Hown.out.frozenAt i
      have HC := box (Hp.out _ Hgr.out l[j] (List.getElem_mem hlt))
      have HSk := box (fun h => HD.out.skip hlt h)
      have HKe := box (fun h => HD.out.keep hlt h)
      have HSt := box (fun x => Hown.out.stored i (.int .i64 x))
      generalize l[j] = x at *
      generalize (ys[i]'(by rw [hyl.out]; omega)) = y at *
      go_wp2_with fail
      refine HC.out.mono ?_
      rintro e w' ⟨rfl, rfl⟩
      generalize p x = u at *
      cases u with
      | true =>
        go_wp2_with fail
        go_roundw
        case rel => exact ⟨i, j + 1, ys, rfl, by go_num, HSk.out (by simp), Hown.out, Hgr.out⟩
        case measure => simp [intOf]; omega
      | false =>
        go_wp2_with fail
        go_roundw
        case rel => exact ⟨i + 1, j + 1, ys.set i x, by go_num, by go_num, HKe.out (by simp), by rw [← intVals_set]; exact (HSt.out x).1, grownBy_tr Hgr.out (HSt.out x).2⟩
        case measure => simp [intOf]; omega
    · have hj : j = l.length := by omega
      subst hj
      have hlen : Box (i = (l.filter (fun x => !p x)).length) := by
        refine ⟨?_⟩
        have := congrArg List.length HD.out.take
        rw [List.take_of_length_le (Nat.le_refl l.length), List.length_take, hyl.out] at this
        omega
      have hcl : ∀ ty, (Builtin.clear_ #[23] ty #[.slice (some ⟨b0, i, none⟩) (l.length - i) (cap - i)]).run Try.prog wr = .ok (.tuple #[]) (wr.setCells b0 i (List.replicate (l.length - i) (.int .i64 0))) :=
        fun ty => Lib.run_clear_slice wr _ _ ty _ Try.underlying23 Try.zeroValue3 rfl rfl b0 i _ _ (by omega) (fun t ht => by rw [Hown.out.cellAt (i + t) (by omega), intVals_get (by rw [hyl.out]; omega)]; rfl) (fun t ht => Hown.out.frozenAt (i + t))
      have hile : (i : Int) ≤ (l.length : Int) := by omega
      have hilc : (i : Int) ≤ (cap : Int) := by omega
      go_wp2_with fail
      go_ret
      obtain ⟨zs, k1, k2, k3⟩ := setCells_own (List.replicate (l.length - i) (.int .i64 0)) i l.length wr _ Hown.out
      refine ⟨.slice (some ⟨b0, 0, none⟩) i cap, rfl, rfl, ?_, grownBy_tr Hgr.out k3⟩
      have := own_cut k1 (i := i) (by omega)
      rw [k2, intVals_take, HD.out.take, List.take_of_length_le (Nat.le_refl l.length)] at this
      rw [← hlen.out]
      exact this
end
section
open Go.RowKit Go.Lib

/-- The closure that run.Serial hands on. -/
theorem serial1_tells (l : List OpM) (D : Nat) (W : World) (hk : Blk W D 77 (endVals l 3)) (s : List Int) (hs : ∀ x ∈ s, 0 ≤ x ∧ x < 12) :
    TellsL 37 #[.pointer (some ⟨D, 0, none⟩)] (fun x => !RunM.endB l 3 x.toNat) s W := by
  intro x hx
  obtain ⟨h0, h1⟩ := hs x hx
  obtain ⟨t, rfl⟩ := Int.eq_ofNat_of_zero_le h0
  have ht : t < 12 := by omega
  have hc := hk.tabCell ht
  show Calls Try.prog 37 #[.int .i64 (t : Int), .pointer (some ⟨D, 0, none⟩)] W _
  simp only [Int.toNat_natCast]
  generalize RunM.endB l 3 t = u at *
  clear hk hs hx h0
  go_enter Try.func37, Try.ntmps37
  go_wp2_with fail
  go_ret
  exact ⟨rfl, rfl⟩
/-- What run.Serial answers. -/
def RunM.SerPost (l : List OpM) (w : World) (e : Ending) (w' : World) : Prop :=
  Below w.heap.size w w' ∧ ((RunM.check l ≠ 0 ∧ e = .returned (.tuple #[.slice none 0 0, .int .i64 (RunM.check l)])) ∨
    (RunM.check l = 0 ∧ GrM.order 12 (RunM.edges l) = none ∧ e = .returned (.tuple #[.slice none 0 0, .int .i64 11])) ∨
    (RunM.check l = 0 ∧ ∃ r v, GrM.order 12 (RunM.edges l) = some r ∧ e = .returned (.tuple #[v, .int .i64 0]) ∧ w'.ownsRow w.heap.size 3 1 v (RunM.serialOf l r).length (intVals (RunM.serialOf l r))))
theorem serial_filter (l : List OpM) (r : List Nat) : (GrM.ints r).filter (fun x => !(fun x : Int => !RunM.endB l 3 x.toNat) x) = RunM.serialOf l r := by
  unfold GrM.ints RunM.serialOf
  rw [List.filter_map]
  congr 1
  apply List.filter_congr
  intro x _
  simp

set_option maxRecDepth 100000 in
set_option maxHeartbeats 8000000 in
theorem serial_any (l : List OpM) (ao : Option Addr) (cap : Nat) (w : World) (h : OpsAt w ao l) (hf : RunM.Fits l) (hcap : l.length ≤ cap) (hc2 : cap ≤ 9000000000000) :
    Calls Try.prog 11 #[.slice ao l.length cap] w (RunM.SerPost l w) := by
  have H := box h
  have HC := box (edges_any l ao cap w h hf hcap hc2)
  clear h hf hcap hc2
  go_enter Try.func11, Try.ntmps11
  go_wp2_with fail
  refine HC.out.mono ?_
  rintro e w1 ⟨hb1, ⟨hc, rfl⟩ | ⟨hc, v, rfl, hown⟩⟩
  · have HB1 := box hb1; have Hc := box hc
    have e0 : (RunM.check l != 0) = true := by simpa using hc
    clear hb1 hc HC
    obtain ⟨c, Hcc⟩ : ∃ x, Box (RunM.check l = x) := ⟨_, ⟨rfl⟩⟩
    rw [Hcc.out] at e0 ⊢
    go_wp2_with fail
    go_ret2
    exact ⟨HB1.out, Or.inl ⟨Hc.out, by rw [Hcc.out]; rfl⟩⟩
  have HB1 := box hb1; have Hc := box hc
  obtain ⟨eo, ec, rfl, _, hat, _, _⟩ := EgsAt.own hown
  have HG := box (graphOrder_any 12 (RunM.edges l) eo ec w1 hat (by have : (RunM.edges l).length ≤ 144 := RunM.edgesTo_len l 12; omega))
  clear hb1 hc hown hat HC
  obtain ⟨en, Hen⟩ : ∃ x, Box ((RunM.edges l).length = x) := ⟨_, ⟨rfl⟩⟩
  rw [Hen.out] at HG ⊢
  go_wp2_with fail
  refine HG.out.mono ?_
  rintro e w2 ⟨hb2, ⟨hx, _⟩ | ⟨_, ho, rfl⟩ | ⟨_, r, v, ho, rfl, hown⟩⟩
  · exact absurd (RunM.edges_check l) hx
  · have HB2 := box (below_tr HB1.out hb2); have Ho := box ho
    clear hb2 ho HG
    go_wp2_with fail
    go_ret2
    exact ⟨HB2.out, Or.inr (Or.inl ⟨Hc.out, Ho.out, rfl⟩)⟩
  have HB2 := box (below_tr HB1.out hb2); have Ho := box ho
  have Hown := box (ownsRow_mono hown HB1.out.size)
  have hOk := GrM.order_ok (n := 12) ho
  have Hr12 : Box (r.length = 12 ∧ ∀ x ∈ r, x < 12) := ⟨hOk.2, hOk.1.lt⟩
  clear hb2 ho hown HG hOk
  have hK := RunM.check_ok Hc.out
  have hl := hK.1
  have HT : Box (∀ o ∈ l, 0 ≤ o.tx ∧ o.tx < 12) := ⟨fun o ho => by have := RunM.bad_zero (hK.2.2 o ho); omega⟩
  clear hK
  go_wp2_with fail
  refine (ended_any l 3 ao cap w2 (H.out.below HB2.out (Nat.le_refl _)) (by omega) HT.out).mono ?_
  rintro e w3 ⟨rfl, hb3⟩
  have HB3 := box (below_tr HB2.out hb3)
  have Hown3 := box (ownsRow_below Hown.out hb3)
  clear hb3
  have hlenV : (endVals l 3).toArray.size = 12 := by rw [List.size_toArray]; exact Tab_len _ _
  have hsz : (Try.prog.info? 77).map (·.size) = some (endVals l 3).toArray.size := by rw [hlenV]; kernel_rfl
  have hone : (endVals l 3).toArray.all (·.oneCell') = true := all_oneCell_toArray (by
    intro u hu
    unfold endVals Tab at hu
    obtain ⟨i, _, rfl⟩ := List.mem_map.1 hu
    rfl)
  have hold : ∀ cs : Array Value, cs.size = 12 → cs.size = (endVals l 3).toArray.size := fun cs h => by rw [h, hlenV]
  have Hsz := box hsz; have Hone := box hone; have Hold := box hold
  clear hlenV hsz hone hold
  obtain ⟨L, HL⟩ : ∃ L, Box (endVals l 3 = L) := ⟨_, ⟨rfl⟩⟩
  rw [HL.out] at Hsz Hone Hold ⊢
  go_upto_region 8 with (refine wpList_store_new rfl 77 (.tmp 7) (.tmp 25) rfl L.toArray (by rfl) (by rfl) 77 _ Hsz.out (Hold.out _ rfl) Hone.out ?_)
  have hs3 := HB3.out.size
  refine name_world (fun W => Below w.heap.size w W ∧ Blk W w3.heap.size 77 (endVals l 3) ∧ W.ownsRow w.heap.size 3 1 v (GrM.ints r).length (intVals (GrM.ints r))) ⟨HB3.out.alloc hs3 _, by rw [HL.out]; exact Blk.new w3 L _, by
    have := Hown3.out.alloc (.cells L.toArray 77)
    have e : (GrM.ints r).length = r.length := by simp [GrM.ints]
    rw [e]; exact this⟩ ?_
  rintro W ⟨hwb, hwk, hwo⟩
  have HW := box hwb; have HWk := box hwk; have HWo := box hwo
  clear hwb hwk hwo HB3 hs3 Hown3
  generalize w3.heap.size = D at *
  go_wp2_with fail
  refine (deleteIn_any (GrM.ints r) v w.heap.size 37 #[.pointer (some ⟨D, 0, none⟩)] (fun x => !RunM.endB l 3 x.toNat) W HWo.out (by simp [GrM.ints]; rw [Hr12.out.1]; omega) (fun W' hg => serial1_tells l D W' (HWk.out.grown hg (HWk.out.ne_own HWo.out (by decide))) _ (fun x hx => by
    unfold GrM.ints at hx
    obtain ⟨y, hy, rfl⟩ := List.mem_map.1 hx
    have := Hr12.out.2 y hy
    omega)) (enters_fn Try.func37 (by kernel_rfl) rfl)).mono ?_
  rintro e w5 ⟨v', rfl, hv, hown5, hg⟩
  rw [serial_filter] at hown5
  have HB5 : Box (Below w.heap.size w w5) := ⟨HW.out.grown hg HW.out.size (fun b hb => (HWo.out.lt b hb).1)⟩
  have HO5 := box hown5
  clear hv hown5 hg
  go_wp2_with fail
  go_ret2
  exact ⟨HB5.out, Or.inr (Or.inr ⟨Hc.out, r, v', Ho.out, rfl, HO5.out⟩)⟩
end
end Go.Proofs.Ytnhhjjhhicmfpaa
