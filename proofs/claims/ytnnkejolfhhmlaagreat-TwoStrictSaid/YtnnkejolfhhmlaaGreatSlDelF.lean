/- slices.DeleteFunc over ints in a row of the call's own, at a predicate that only reads. -/
import Derived.Test.YtnnkejolfhhmlaaGreatSlFind
import Derived.Lib.SliceRun
namespace Go.Proofs.YtnnkejolfhhmlaaGreat
open Go.RowKit Go.Lib

theorem setCells_own {base e cap : Nat} {g : Nat} : ∀ (vs : List Value) (o n : Nat) (w : World) (xs : List Value), w.ownsRow base e 1 (.slice (some ⟨g, 0, none⟩) n cap) n xs →
    ∃ ys, (w.setCells g o vs).ownsRow base e 1 (.slice (some ⟨g, 0, none⟩) n cap) n ys ∧ ys.take o = xs.take o ∧ w.grownBy (w.setCells g o vs) (some g)
  | [], o, n, w, xs, h => ⟨xs, h, rfl, ⟨rfl, rfl, rfl, Nat.le_refl _, fun _ _ _ => rfl⟩⟩
  | v :: vs, o, n, w, xs, h => by
    obtain ⟨h1, h2⟩ := h.stored o v
    obtain ⟨ys, k1, k2, k3⟩ := setCells_own vs (o + 1) n _ _ h1
    refine ⟨ys, k1, ?_, ?_⟩
    · have := congrArg (List.take o) k2
      rw [List.take_take, List.take_take, show min o (o + 1) = o by omega] at this
      rw [this, List.take_set, List.set_eq_of_length_le (by simp; omega)]
    · exact ⟨k3.os.trans h2.os, k3.tape.trans h2.tape, k3.output.trans h2.output, Nat.le_trans h2.size k3.size, fun k hk hne => (k3.block k (Nat.lt_of_lt_of_le hk h2.size) hne).trans (h2.block k hk hne)⟩
theorem grownBy_tr {w w1 w2 : World} {row : Option Nat} (h : w.grownBy w1 row) (k : w1.grownBy w2 row) : w.grownBy w2 row :=
  ⟨k.os.trans h.os, k.tape.trans h.tape, k.output.trans h.output, Nat.le_trans h.size k.size, fun i hi hne => (k.block i (Nat.lt_of_lt_of_le hi h.size) hne).trans (h.block i hi hne)⟩
theorem grownBy_refl (w : World) (row : Option Nat) : w.grownBy w row := ⟨rfl, rfl, rfl, Nat.le_refl _, fun _ _ _ => rfl⟩
theorem own_cut {w : World} {base e g cap n i : Nat} {xs : List Value} (h : w.ownsRow base e 1 (.slice (some ⟨g, 0, none⟩) n cap) n xs) (hi : i ≤ n) : w.ownsRow base e 1 (.slice (some ⟨g, 0, none⟩) i cap) i (xs.take i) := by
  have hl := h.1
  refine ⟨by simp; omega, ?_⟩
  rcases h.2 with ⟨h1, _⟩ | ⟨g', cap', cur, h1, h2, h3, h4, h5, h6, h7⟩
  · simp at h1
  · simp only [Value.slice.injEq, Option.some.injEq, Addr.mk.injEq, and_true, true_and] at h1
    obtain ⟨rfl, rfl⟩ := h1
    exact Or.inr ⟨g, cap, cur, rfl, h2, h3, by omega, h5, h6, by rw [← h7, List.take_take]; congr 1; omega⟩

/-- What DeleteFunc leaves. -/
def IntsM.DelPost (base : Nat) (v : Value) (l : List Int) (w : World) (e : Ending) (w' : World) : Prop :=
  ∃ v', e = .returned v' ∧ v'.ownBlock = v.ownBlock ∧ w'.ownsRow base 3 1 v' l.length (intVals l) ∧ w.grownBy w' v.ownBlock
structure IntsM.Del (p : Int → Bool) (l : List Int) (i j : Nat) (ys : List Int) : Prop where
  len : ys.length = l.length
  lt : i < j
  le : j ≤ l.length
  take : ys.take i = (l.take j).filter (fun x => !p x)
  drop : ys.drop j = l.drop j
def IntsM.DRel (p : Int → Bool) (l : List Int) (base g cap : Nat) (w : World) (t5 t6 : Value) (wr : World) : Prop :=
  ∃ (i j : Nat) (ys : List Int), t5 = .int .i64 (i : Int) ∧ t6 = .int .i64 (j : Int) ∧ IntsM.Del p l i j ys ∧ wr.ownsRow base 3 1 (.slice (some ⟨g, 0, none⟩) l.length cap) l.length (intVals ys) ∧ w.grownBy wr (some g)
theorem IntsM.Del.skip {p : Int → Bool} {l ys : List Int} {i j : Nat} (h : IntsM.Del p l i j ys) (hj : j < l.length) (hp : p l[j] = true) : IntsM.Del p l i (j + 1) ys :=
  ⟨h.len, by have := h.lt; omega, hj, by rw [List.take_succ_eq_append_getElem hj, List.filter_append, h.take]; simp [hp], by
    have := congrArg (List.drop 1) h.drop
    rwa [List.drop_drop, List.drop_drop] at this⟩
theorem IntsM.Del.keep {p : Int → Bool} {l ys : List Int} {i j : Nat} (h : IntsM.Del p l i j ys) (hj : j < l.length) (hp : p l[j] = false) : IntsM.Del p l (i + 1) (j + 1) (ys.set i l[j]) := by
  have hl := h.len
  have hlt := h.lt
  refine ⟨by simp [hl], by omega, hj, ?_, ?_⟩
  · rw [List.take_succ_eq_append_getElem hj, List.filter_append, ← h.take]
    rw [List.take_succ_eq_append_getElem (by simp; omega), List.getElem_set_self, List.take_set, List.set_eq_of_length_le (by simp; omega)]
    simp [hp]
  · rw [List.drop_set_of_lt (by omega)]
    have := congrArg (List.drop 1) h.drop
    rwa [List.drop_drop, List.drop_drop] at this
theorem IntsM.Del.at {p : Int → Bool} {l ys : List Int} {i j : Nat} (h : IntsM.Del p l i j ys) (hj : j < l.length) : ys[j]? = some l[j] := by
  have h1 := congrArg (fun l => l[0]?) h.drop
  simp only [List.getElem?_drop, Nat.add_zero] at h1
  rw [h1, List.getElem?_eq_getElem hj]
theorem intVals_set (l : List Int) (i : Nat) (x : Int) : (intVals l).set i (.int .i64 x) = intVals (l.set i x) := by simp [intVals, List.map_set]
theorem intVals_take (l : List Int) (i : Nat) : (intVals l).take i = intVals (l.take i) := by simp [intVals]
theorem IntsM.find_start {p : Int → Bool} {l : List Int} {k : Nat} (h : l.findIdx p = k) (hk : k < l.length) : IntsM.Del p l k (k + 1) l := by
  have hall : ∀ j (hj : j < l.length), j < k → p l[j] = false := fun j hj h2 => by
    have := List.not_of_lt_findIdx (p := p) (xs := l) (i := j) (by omega)
    simpa using this
  have hp : p l[k] = true := by
    have := List.findIdx_getElem (p := p) (xs := l) (w := by omega)
    simpa [h] using this
  refine ⟨rfl, by omega, hk, ?_, rfl⟩
  rw [List.take_succ_eq_append_getElem hk, List.filter_append]
  have : (l.take k).filter (fun x => !p x) = l.take k := by
    rw [List.filter_eq_self]
    intro x hx
    obtain ⟨j, hj, rfl⟩ := List.getElem_of_mem hx
    simp at hj
    rw [List.getElem_take, hall j (by omega) (by omega)]; rfl
  rw [this]; simp [hp]

set_option maxRecDepth 20000 in
set_option maxHeartbeats 2000000 in
theorem deleteFunc_any (l : List Int) (v : Value) (base g : Nat) (lb : Array Value) (p : Int → Bool) (w : World) (h : w.ownsRow base 3 1 v l.length (intVals l)) (hn : l.length ≤ 9000000000000000000)
    (hp : ∀ W, w.grownBy W v.ownBlock → Tells g lb p W) (eg : ∀ args w, (callFunc g args).run Tryz.prog w = .ok (.enter g args) w) :
    Calls Tryz.prog 26 #[v, .func (.func g) #[] lb] w (IntsM.DelPost base v (l.filter (fun x => !p x)) w) := by
  obtain ⟨ao, cap, rfl, _, hat, hnil, hcap⟩ := IntsAt.own h
  have H := box h; have Hp := box hp; have Hat := box hat
  have Hfind := box (fun w (h : IntsAt w ao l) (hp : Tells g lb p w) => indexFunc_any l ao cap g lb p w h hn hp eg)
  clear h hp hat hnil
  by_cases hf : l.findIdx p < l.length
  case neg =>
    have HE : Box (IntsM.find p l = -1) := ⟨by unfold IntsM.find; rw [if_neg hf]⟩
    have HF : Box (l.filter (fun x => !p x) = l) := ⟨by
      rw [List.filter_eq_self]
      intro x hx
      have h1 : l.findIdx p = l.length := by have := List.findIdx_le_length (p := p) (xs := l); omega
      rw [List.findIdx_eq_length] at h1
      rw [h1 x hx]; rfl⟩
    clear hf
    go_enter Tryz.func26, Tryz.ntmps26
    go_wp2_with fail
    refine (Hfind.out _ Hat.out (Hp.out _ (grownBy_refl _ _))).mono ?_
    rintro e w' ⟨rfl, rfl⟩
    rw [HE.out]
    go_wp2_with fail
    go_ret
    refine ⟨_, rfl, rfl, ?_, grownBy_refl _ _⟩
    rw [HF.out]; exact H.out
  obtain ⟨k0, HK⟩ : ∃ k0, Box (l.findIdx p = k0) := ⟨_, ⟨rfl⟩⟩
  rw [HK.out] at hf
  have HE : Box (IntsM.find p l = (k0 : Int)) := ⟨by unfold IntsM.find; rw [HK.out, if_pos hf]⟩
  have HS := box (IntsM.find_start HK.out hf)
  obtain ⟨b0, off0, rfl, hb0, _⟩ := (Hat.out.resolve_left (by intro h; rw [h] at hf; simp at hf))
  obtain ⟨g0, cap0, hv, hg1, hg2, hg3⟩ := ownsRow_shape H.out (by simp)
  simp only [Value.slice.injEq, Option.some.injEq, Addr.mk.injEq, and_true, true_and] at hv
  obtain ⟨⟨rfl, rfl⟩, rfl⟩ := hv
  have q0 : ((k0 : Int) == -1) = false := by simp
  go_enter Tryz.func26, Tryz.ntmps26
  go_wp2_with fail
  refine (Hfind.out _ Hat.out (Hp.out _ (grownBy_refl _ _))).mono ?_
  rintro e w' ⟨rfl, rfl⟩
  rw [HE.out]
  go_wp2_with fail
  go_loopw [5, 6, 7] (fun t5 t6 _ wr => IntsM.DRel p l base b0 cap w t5 t6 wr) (fun _ t6 _ _ => l.length - (intOf t6).toNat)
  case atStart => exact ⟨k0, k0 + 1, l, rfl, by go_num, HS.out, H.out, grownBy_refl _ _⟩
  case round =>
    obtain ⟨i, j, ys, rfl, rfl, hd, hown, hgr⟩ := hrel
    have HD := box hd; have Hown := box hown; have Hgr := box hgr
    have hij := hd.lt; have hjl := hd.le
    have hyl := box hd.len
    clear hd hown hgr
    by_cases hlt : j < l.length
    · have hcj : wr.cell? ⟨b0, j, none⟩ = some (.int .i64 l[j]) := by
        rw [Hown.out.cellAt j (by omega), intVals_get (by rw [hyl.out]; exact hlt)]
        have := HD.out.at hlt
        rw [List.getElem?_eq_getElem (by rw [hyl.out]; exact hlt)] at this
        rw [Option.some.inj this]
      have hci : wr.cell? ⟨b0, i, none⟩ = some (.int .i64 (ys[i]'(by rw [hyl.out]; omega))) := by
        rw [Hown.out.cellAt i (by omega), intVals_get]
      have hfi := Hown.out.frozenAt i
      have HC := box (Hp.out _ Hgr.out l[j])
      have HSk := box (fun h => HD.out.skip hlt h)
      have HKe := box (fun h => HD.out.keep hlt h)
      have HSt := box (fun x => Hown.out.stored i (.int .i64 x))
      generalize l[j] = x at *
      generalize (ys[i]'(by rw [hyl.out]; omega)) = y at *
      go_wp2_with fail
      refine HC.out.mono ?_
      rintro e w' ⟨rfl, rfl⟩
      generalize p x = u at *
      cases u with
      | true =>
        go_wp2_with fail
        go_roundw
        case rel => exact ⟨i, j + 1, ys, rfl, by go_num, HSk.out (by simp), Hown.out, Hgr.out⟩
        case measure => simp [intOf]; omega
      | false =>
        go_wp2_with fail
        go_roundw
        case rel => exact ⟨i + 1, j + 1, ys.set i x, by go_num, by go_num, HKe.out (by simp), by rw [← intVals_set]; exact (HSt.out x).1, grownBy_tr Hgr.out (HSt.out x).2⟩
        case measure => simp [intOf]; omega
    · have hj : j = l.length := by omega
      subst hj
      have hlen : Box (i = (l.filter (fun x => !p x)).length) := by
        refine ⟨?_⟩
        have := congrArg List.length HD.out.take
        rw [List.take_of_length_le (Nat.le_refl l.length), List.length_take, hyl.out] at this
        omega
      have hcl : ∀ ty, (Builtin.clear_ #[23] ty #[.slice (some ⟨b0, i, none⟩) (l.length - i) (cap - i)]).run Tryz.prog wr = .ok (.tuple #[]) (wr.setCells b0 i (List.replicate (l.length - i) (.int .i64 0))) :=
        fun ty => Lib.run_clear_slice wr _ _ ty _ Tryz.underlying23 Tryz.zeroValue3 rfl rfl b0 i _ _ (by omega) (fun t ht => by rw [Hown.out.cellAt (i + t) (by omega), intVals_get (by rw [hyl.out]; omega)]; rfl) (fun t ht => Hown.out.frozenAt (i + t))
      have hile : (i : Int) ≤ (l.length : Int) := by omega
      have hilc : (i : Int) ≤ (cap : Int) := by omega
      go_wp2_with fail
      go_ret
      obtain ⟨zs, k1, k2, k3⟩ := setCells_own (List.replicate (l.length - i) (.int .i64 0)) i l.length wr _ Hown.out
      refine ⟨.slice (some ⟨b0, 0, none⟩) i cap, rfl, rfl, ?_, grownBy_tr Hgr.out k3⟩
      have := own_cut k1 (i := i) (by omega)
      rw [k2, intVals_take, HD.out.take, List.take_of_length_le (Nat.le_refl l.length)] at this
      rw [← hlen.out]
      exact this
end Go.Proofs.YtnnkejolfhhmlaaGreat
