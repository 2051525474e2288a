/- IndexFunc, DeleteFunc over ints, at a function that may lay blocks. -/
import Derived.Test.YtgkclgmekbgjmaaSlDelF
import Derived.Test.YtgkclgmekbgjmaaDelG
namespace Go.Proofs.Ytgkclgmekbgjmaa
open Go.RowKit Go.Lib

/-- Function g, with lb behind, tells p of a number of l, in world W; it may lay blocks. -/
def TellsB (g : Nat) (lb : Array Value) (p : Int → Bool) (l : List Int) (W : World) : Prop := ∀ x ∈ l, Calls Try.prog g (#[.int .i64 x] ++ lb) W fun e w' => e = .returned (.bool (p x)) ∧ Below W.heap.size W w'

set_option maxRecDepth 20000 in
set_option maxHeartbeats 1000000 in
theorem indexB_any (l : List Int) (ao : Option Addr) (cap g : Nat) (lb : Array Value) (p : Int → Bool) (w : World) (h : IntsAt w ao l) (hn : l.length ≤ 9000000000000000000) (hp : ∀ W, Below w.heap.size w W → TellsB g lb p l W)
    (eg : ∀ args w, (callFunc g args).run Try.prog w = .ok (.enter g args) w) :
    Calls Try.prog 100 #[.slice ao l.length cap, .func (.func g) #[] lb] w fun e w' => e = .returned (.int .i64 (IntsM.find p l)) ∧ Below w.heap.size w w' := by
  have H := box h; have Hp := box hp
  clear h hp
  go_enter Try.func100, Try.ntmps100
  go_wp2_with fail
  go_loopw [8] (fun t8 wr => ∃ k : Nat, k ≤ l.length ∧ t8 = .int .i64 (k : Int) ∧ Box (∀ j (h : j < l.length), j < k → p l[j] = false) ∧ Box (Below w.heap.size w wr)) (fun t8 _ => l.length - (RowKit.intOf t8).toNat)
  case atStart => exact ⟨0, Nat.zero_le _, rfl, ⟨fun j _ h => by omega⟩, ⟨Below.refl _ _⟩⟩
  case round =>
    obtain ⟨k, hk, rfl, Hall, Hb⟩ := hrel
    by_cases hlt : k < l.length
    · obtain ⟨b, off, rfl, hb, hrow⟩ := ((H.out.below Hb.out (Nat.le_refl _)).resolve_left (by intro h; rw [h] at hlt; simp at hlt))
      have hc := hrow k hlt
      have Hc := box (Hp.out _ Hb.out l[k] (List.getElem_mem hlt))
      have HF : Box (p l[k] = true → IntsM.find p l = (k : Int)) := ⟨fun h => by
        have : l.findIdx p = k := by
          rw [List.findIdx_eq (by omega)]
          exact ⟨h, fun j hj => Hall.out j (by omega) hj⟩
        unfold IntsM.find
        rw [this, if_pos hlt]⟩
      have HN : Box (p l[k] = false → ∀ j (h : j < l.length), j < k + 1 → p l[j] = false) := ⟨fun h j hj h2 => by
        by_cases e : j = k
        · subst e; exact h
        · exact Hall.out j hj (by omega)⟩
      generalize l[k] = x at *
      clear hrow
      go_wp2_with fail
      refine (Hc.out).mono ?_
      rintro e w' ⟨rfl, hb'⟩
      have HB' := box (below_tr Hb.out hb')
      clear hb'
      generalize p x = v at *
      cases v with
      | true =>
        go_wp2_with fail
        go_ret
        exact ⟨by rw [HF.out (by simp)]; rfl, HB'.out⟩
      | false =>
        go_wp2_with fail
        go_roundw
        case rel => exact ⟨k + 1, hlt, by go_num, ⟨HN.out (by simp)⟩, HB'⟩
        case measure => simp [RowKit.intOf]; omega
    · have HF : Box (IntsM.find p l = -1) := ⟨by
        unfold IntsM.find
        rw [if_neg]
        intro h
        have h2 := List.findIdx_getElem (w := h)
        have := Hall.out _ h (by omega)
        rw [this] at h2; simp at h2⟩
      go_wp2_with fail
      go_ret
      exact ⟨by rw [HF.out]; rfl, Hb.out⟩

/-- What DeleteFunc leaves. -/
def IntsM.DelBPost (base : Nat) (l : List Int) (w : World) (e : Ending) (w' : World) : Prop :=
  ∃ v', e = .returned v' ∧ w'.ownsRow base 3 1 v' l.length (intVals l) ∧ w.heap.size ≤ w'.heap.size ∧ Below base w w'
set_option maxRecDepth 20000 in
set_option maxHeartbeats 2000000 in
theorem deleteB_any (l : List Int) (v : Value) (base g : Nat) (lb : Array Value) (p : Int → Bool) (w : World) (h : w.ownsRow base 3 1 v l.length (intVals l)) (hbw : base ≤ w.heap.size) (hn : l.length ≤ 9000000000000000000)
    (hp : ∀ W, Below base w W → TellsB g lb p l W) (eg : ∀ args w, (callFunc g args).run Try.prog w = .ok (.enter g args) w) :
    Calls Try.prog 45 #[v, .func (.func g) #[] lb] w (IntsM.DelBPost base (l.filter (fun x => !p x)) w) := by
  obtain ⟨ao, cap, rfl, _, hat, hnil, hcap⟩ := IntsAt.own h
  have H := box h; have Hp := box hp; have Hat := box hat
  have Hfind := box (fun w (h : IntsAt w ao l) (hp : ∀ W, Below w.heap.size w W → TellsB g lb p l W) => indexB_any l ao cap g lb p w h hn hp eg)
  have HpS : Box (∀ W, Below w.heap.size w W → TellsB g lb p l W) := ⟨fun W hb => hp W (hb.mono hbw)⟩
  clear h hp hat hnil
  by_cases hf : l.findIdx p < l.length
  case neg =>
    have HE : Box (IntsM.find p l = -1) := ⟨by unfold IntsM.find; rw [if_neg hf]⟩
    have HF : Box (l.filter (fun x => !p x) = l) := ⟨by
      rw [List.filter_eq_self]
      intro x hx
      have h1 : l.findIdx p = l.length := by have := List.findIdx_le_length (p := p) (xs := l); omega
      rw [List.findIdx_eq_length] at h1
      rw [h1 x hx]; rfl⟩
    clear hf
    go_enter Try.func45, Try.ntmps45
    go_wp2_with fail
    refine (Hfind.out _ Hat.out HpS.out).mono ?_
    rintro e w' ⟨rfl, hb⟩
    have HB := box hb
    clear hb
    rw [HE.out]
    go_wp2_with fail
    go_ret
    refine ⟨_, rfl, ?_, HB.out.size, HB.out.mono hbw⟩
    rw [HF.out]; exact ownsRow_below H.out HB.out
  obtain ⟨k0, HK⟩ : ∃ k0, Box (l.findIdx p = k0) := ⟨_, ⟨rfl⟩⟩
  rw [HK.out] at hf
  have HE : Box (IntsM.find p l = (k0 : Int)) := ⟨by unfold IntsM.find; rw [HK.out, if_pos hf]⟩
  have HS := box (IntsM.find_start HK.out hf)
  obtain ⟨b0, off0, rfl, hb0, _⟩ := (Hat.out.resolve_left (by intro h; rw [h] at hf; simp at hf))
  obtain ⟨g0, cap0, hv, hg1, hg2, hg3⟩ := ownsRow_shape H.out (by simp)
  simp only [Value.slice.injEq, Option.some.injEq, Addr.mk.injEq, and_true, true_and] at hv
  obtain ⟨⟨rfl, rfl⟩, rfl⟩ := hv
  have q0 : ((k0 : Int) == -1) = false := by simp
  go_enter Try.func45, Try.ntmps45
  go_wp2_with fail
  refine (Hfind.out _ Hat.out HpS.out).mono ?_
  rintro e w' ⟨rfl, hb⟩
  have HB := box (show Below base w w' from hb.mono hbw)
  have HO' := box (ownsRow_below H.out hb)
  have HSz := box hb.size
  clear hb
  rw [HE.out]
  go_wp2_with fail
  go_loopw [5, 6, 7] (fun t5 t6 _ wr => ∃ (i j : Nat) (ys : List Int), t5 = .int .i64 (i : Int) ∧ t6 = .int .i64 (j : Int) ∧ IntsM.Del p l i j ys ∧ wr.ownsRow base 3 1 (.slice (some ⟨b0, 0, none⟩) l.length cap) l.length (intVals ys) ∧ Below base w wr) (fun _ t6 _ _ => l.length - (intOf t6).toNat)
  case atStart => exact ⟨k0, k0 + 1, l, rfl, by go_num, HS.out, HO'.out, HB.out⟩
  case round =>
    obtain ⟨i, j, ys, rfl, rfl, hd, hown, hgr⟩ := hrel
    have HD := box hd; have Hown := box hown; have Hgr := box hgr
    have hij := hd.lt; have hjl := hd.le
    have hyl := box hd.len
    clear hd hown hgr
    by_cases hlt : j < l.length
    · have hcj : wr.cell? ⟨b0, j, none⟩ = some (.int .i64 l[j]) := by
        rw [Hown.out.cellAt j (by omega), intVals_get (by rw [hyl.out]; exact hlt)]
        have := HD.out.at hlt
        rw [List.getElem?_eq_getElem (by rw [hyl.out]; exact hlt)] at this
        rw [Option.some.inj this]
      have HC := box (Hp.out _ Hgr.out l[j] (List.getElem_mem hlt))
      have HSk := box (fun h => HD.out.skip hlt h)
      have HKe := box (fun h => HD.out.keep hlt h)
      obtain ⟨x, HX⟩ : ∃ x, Box (l[j] = x) := ⟨_, ⟨rfl⟩⟩
      rw [HX.out] at hcj HC HSk HKe
      go_wp2_with fail
      refine HC.out.mono ?_
      rintro e w2 ⟨rfl, hb2⟩
      have HO2 := box (ownsRow_below Hown.out hb2)
      have HB2 : Box (Below base w w2) := ⟨Hgr.out.trans (hb2.mono (Nat.le_trans hbw Hgr.out.size))⟩
      clear hb2 hcj
      generalize p x = u at *
      cases u with
      | true =>
        go_wp2_with fail
        go_roundw
        case rel => exact ⟨i, j + 1, ys, rfl, by go_num, HSk.out (by simp), HO2.out, HB2.out⟩
        case measure => simp [intOf]; omega
      | false =>
        have hci : w2.cell? ⟨b0, i, none⟩ = some (.int .i64 (ys[i]'(by rw [hyl.out]; omega))) := by
          rw [HO2.out.cellAt i (by omega), intVals_get]
        have hfi := HO2.out.frozenAt i
        have HSt := box (HO2.out.stored i (.int .i64 x)).1
        have HBs := box (HB2.out.setCell (p := ⟨b0, i, none⟩) hg1 (.int .i64 x))
        generalize (ys[i]'(by rw [hyl.out]; omega)) = y at *
        go_wp2_with fail
        go_roundw
        case rel => exact ⟨i + 1, j + 1, ys.set i x, by go_num, by go_num, HKe.out (by simp), by rw [← intVals_set]; exact HSt.out, HBs.out⟩
        case measure => simp [intOf]; omega
    · have hj : j = l.length := by omega
      subst hj
      have hlen : Box (i = (l.filter (fun x => !p x)).length) := by
        refine ⟨?_⟩
        have := congrArg List.length HD.out.take
        rw [List.take_of_length_le (Nat.le_refl l.length), List.length_take, hyl.out] at this
        omega
      have hcl : ∀ ty, (Builtin.clear_ #[31] ty #[.slice (some ⟨b0, i, none⟩) (l.length - i) (cap - i)]).run Try.prog wr = .ok (.tuple #[]) (wr.setCells b0 i (List.replicate (l.length - i) (.int .i64 0))) :=
        fun ty => Lib.run_clear_slice wr _ _ ty _ Try.underlying31 Try.zeroValue3 rfl rfl b0 i _ _ (by omega) (fun t ht => by rw [Hown.out.cellAt (i + t) (by omega), intVals_get (by rw [hyl.out]; omega)]; rfl) (fun t ht => Hown.out.frozenAt (i + t))
      have hile : (i : Int) ≤ (l.length : Int) := by omega
      have hilc : (i : Int) ≤ (cap : Int) := by omega
      go_wp2_with fail
      go_ret
      obtain ⟨zs, k1, k2, k3⟩ := setCells_own (List.replicate (l.length - i) (.int .i64 0)) i l.length wr _ Hown.out
      have hBe : Below base w (wr.setCells b0 i (List.replicate (l.length - i) (.int .i64 0))) := by
        have h1 : ∀ (vs : List Value) (o : Nat) (W : World), Below base w W → Below base w (W.setCells b0 o vs) := by
          intro vs
          induction vs with
          | nil => intro o W hb; exact hb
          | cons u r ih => intro o W hb; rw [World.setCells]; exact ih _ _ (hb.setCell (by simpa using hg1) _)
        exact h1 _ _ _ Hgr.out
      refine ⟨.slice (some ⟨b0, 0, none⟩) i cap, rfl, ?_, hBe.size, hBe⟩
      have := own_cut k1 (i := i) (by omega)
      rw [k2, intVals_take, HD.out.take, List.take_of_length_le (Nat.le_refl l.length)] at this
      rw [← hlen.out]
      exact this
end Go.Proofs.Ytgkclgmekbgjmaa
