/- slices.DeleteFunc over edges in a row of the call's own, at a function that may turn other memory. -/
import Derived.Test.YtnnkejolfhhmlaaEgC
import Derived.Deep.DeepMust
import Derived.Test.YtnnkejolfhhmlaaDelG
namespace Go.Proofs.Ytnnkejolfhhmlaa
section
open Go.RowKit Go.Lib

/-- Function g, with lb behind, tells p of an edge, in world W; it may lay blocks. -/
def TellsEg (g : Nat) (lb : Array Value) (p : EgM → Bool) (l : List EgM) (W : World) : Prop := ∀ o ∈ l, Calls Try.prog g (#[.agg #[.int .i64 o.frm, .int .i64 o.to_]] ++ lb) W fun e w' => e = .returned (.bool (p o)) ∧ Below W.heap.size W w'
def EgsM.find (p : EgM → Bool) (l : List EgM) : Int := if l.findIdx p < l.length then (l.findIdx p : Int) else -1

set_option maxRecDepth 20000 in
set_option maxHeartbeats 1000000 in
theorem indexFunc_egs (l : List EgM) (ao : Option Addr) (cap g : Nat) (lb : Array Value) (p : EgM → Bool) (w : World) (h : EgsAt w ao l) (hn : l.length ≤ 9000000000000000000) (hp : ∀ W, Below w.heap.size w W → TellsEg g lb p l W)
    (eg : ∀ args w, (callFunc g args).run Try.prog w = .ok (.enter g args) w) :
    Calls Try.prog 65 #[.slice ao l.length cap, .func (.func g) #[] lb] w fun e w' => e = .returned (.int .i64 (EgsM.find p l)) ∧ Below w.heap.size w w' := by
  have H := box h; have Hp := box hp
  clear h hp
  go_enter Try.func65, Try.ntmps65
  go_wp2_with fail
  go_loopw [8] (fun t8 wr => ∃ k : Nat, k ≤ l.length ∧ t8 = .int .i64 (k : Int) ∧ Box (∀ j (h : j < l.length), j < k → p l[j] = false) ∧ Box (Below w.heap.size w wr)) (fun t8 _ => l.length - (RowKit.intOf t8).toNat)
  case atStart => exact ⟨0, Nat.zero_le _, rfl, ⟨fun j _ h => by omega⟩, ⟨Below.refl _ _⟩⟩
  case round =>
    obtain ⟨k, hk, rfl, Hall, Hb⟩ := hrel
    by_cases hlt : k < l.length
    · obtain ⟨b, off, rfl, hb, hrow⟩ := ((H.out.below Hb.out (Nat.le_refl _)).resolve_left (by intro h; rw [h] at hlt; simp at hlt))
      obtain ⟨hc0, hc1⟩ := hrow k hlt
      have Hc := box (Hp.out _ Hb.out l[k] (List.getElem_mem hlt))
      have HF : Box (p l[k] = true → EgsM.find p l = (k : Int)) := ⟨fun h => by
        have : l.findIdx p = k := by
          rw [List.findIdx_eq (by omega)]
          exact ⟨h, fun j hj => Hall.out j (by omega) hj⟩
        unfold EgsM.find
        rw [this, if_pos hlt]⟩
      have HN : Box (p l[k] = false → ∀ j (h : j < l.length), j < k + 1 → p l[j] = false) := ⟨fun h j hj h2 => by
        by_cases e : j = k
        · subst e; exact h
        · exact Hall.out j hj (by omega)⟩
      generalize l[k] = o at *
      clear hrow
      go_wp2_with fail
      refine (Hc.out).mono ?_
      rintro e w' ⟨rfl, hb'⟩
      have HB' := box (below_tr Hb.out hb')
      clear hb'
      generalize p o = v at *
      cases v with
      | true =>
        go_wp2_with fail
        go_ret
        exact ⟨by rw [HF.out (by simp)]; rfl, HB'.out⟩
      | false =>
        go_wp2_with fail
        go_roundw
        case rel => exact ⟨k + 1, hlt, by go_num, ⟨HN.out (by simp)⟩, HB'⟩
        case measure => simp [RowKit.intOf]; omega
    · have HF : Box (EgsM.find p l = -1) := ⟨by
        unfold EgsM.find
        rw [if_neg]
        intro h
        have h2 := List.findIdx_getElem (w := h)
        have := Hall.out _ h (by omega)
        rw [this] at h2; simp at h2⟩
      go_wp2_with fail
      go_ret
      exact ⟨by rw [HF.out]; rfl, Hb.out⟩
theorem EgsM.find_ge (p : EgM → Bool) (l : List EgM) : decide (0 ≤ EgsM.find p l) = l.any p := by
  unfold EgsM.find
  by_cases h : l.findIdx p < l.length
  · have h2 := List.findIdx_getElem (w := h)
    rw [if_pos h, decide_eq_true (by omega)]
    exact (List.any_eq_true.2 ⟨_, List.getElem_mem h, h2⟩).symm
  · rw [if_neg h]
    have h1 : l.findIdx p = l.length := by have := List.findIdx_le_length (p := p) (xs := l); omega
    rw [List.findIdx_eq_length] at h1
    have : l.any p = false := by
      rw [List.any_eq_false]
      intro x hx
      rw [h1 x hx]; simp
    rw [this]; rfl
theorem containsFunc_egs (l : List EgM) (ao : Option Addr) (cap g : Nat) (lb : Array Value) (p : EgM → Bool) (w : World) (h : EgsAt w ao l) (hn : l.length ≤ 9000000000000000000) (hp : ∀ W, Below w.heap.size w W → TellsEg g lb p l W)
    (eg : ∀ args w, (callFunc g args).run Try.prog w = .ok (.enter g args) w) :
    Calls Try.prog 53 #[.slice ao l.length cap, .func (.func g) #[] lb] w fun e w' => e = .returned (.bool (l.any p)) ∧ Below w.heap.size w w' := by
  have HC := box (indexFunc_egs l ao cap g lb p w h hn hp eg)
  have HI := box (EgsM.find_ge p l)
  clear h hp eg
  go_enter Try.func53, Try.ntmps53
  go_wp2_with fail
  refine HC.out.mono ?_
  rintro e w' ⟨rfl, hb⟩
  have HB := box hb
  clear hb
  generalize EgsM.find p l = y at *
  go_wp2_with fail
  go_ret
  exact ⟨by rw [← HI.out]; rfl, HB.out⟩
end
section
open Go.RowKit Go.Lib

theorem egVals_set (l : List EgM) : ∀ (i : Nat) (x : EgM), i < l.length → ((egVals l).set (i * 2) (.int .i64 x.frm)).set (i * 2 + 1) (.int .i64 x.to_) = egVals (l.set i x) := by
  induction l with
  | nil => intro i x h; simp at h
  | cons a r ih =>
    intro i x h
    cases i with
    | zero => rfl
    | succ i =>
      have := ih i x (by simpa using h)
      rw [show (i + 1) * 2 = i * 2 + 2 by omega]
      simp only [egVals, List.flatMap_cons, List.cons_append, List.nil_append, List.set_cons_succ] at this ⊢
      rw [this]
theorem egVals_take (l : List EgM) : ∀ i, (egVals l).take (i * 2) = egVals (l.take i) := by
  induction l with
  | nil => intro i; simp [egVals]
  | cons a r ih =>
    intro i
    cases i with
    | zero => simp [egVals]
    | succ i =>
      have := ih i
      rw [show (i + 1) * 2 = i * 2 + 2 by omega]
      simp only [egVals, List.flatMap_cons, List.cons_append, List.nil_append, List.take_succ_cons] at this ⊢
      rw [this]

/-- What a function called for each edge in turn does: it tells p, moves I on, and leaves the row. -/
structure EgTurns (base g : Nat) (lb : Array Value) (p : EgM → Bool) (l : List EgM) (v : Value) (I : Nat → World → Prop) : Prop where
  call : ∀ j (hj : j < l.length) W, I j W → (∀ b, v.ownBlock = some b → b < W.heap.size) → Calls Try.prog g (#[.agg #[.int .i64 l[j].frm, .int .i64 l[j].to_]] ++ lb) W fun e w' => e = .returned (.bool (p l[j])) ∧ I (j + 1) w' ∧ W.heap.size ≤ w'.heap.size ∧ ∀ b, base ≤ b → b < W.heap.size → w'.heap[b]? = W.heap[b]?
  alloc : ∀ j W o, I j W → I j (W.alloc o)
  store : ∀ j W b i u, I j W → v.ownBlock = some b → I j (W.setCell ⟨b, i, none⟩ u)
/-- What IndexFunc leaves. -/
def EgIdxPost (base : Nat) (v : Value) (l : List EgM) (p : EgM → Bool) (I : Nat → World → Prop) (w : World) (e : Ending) (w' : World) : Prop :=
  w'.ownsRow base 92 2 v l.length (egVals l) ∧ w.heap.size ≤ w'.heap.size ∧
    ((l.findIdx p < l.length ∧ e = .returned (.int .i64 (l.findIdx p : Nat)) ∧ I (l.findIdx p + 1) w') ∨ (l.findIdx p = l.length ∧ e = .returned (.int .i64 (-1)) ∧ I l.length w'))

set_option maxRecDepth 20000 in
set_option maxHeartbeats 1000000 in
theorem indexFunc_egsT (l : List EgM) (v : Value) (base g : Nat) (lb : Array Value) (p : EgM → Bool) (I : Nat → World → Prop) (w : World) (h : w.ownsRow base 92 2 v l.length (egVals l)) (hn : l.length ≤ 9000000000000000000) (hI : I 0 w) (ht : EgTurns base g lb p l v I)
    (eg : ∀ args w, (callFunc g args).run Try.prog w = .ok (.enter g args) w) :
    Calls Try.prog 65 #[v, .func (.func g) #[] lb] w (EgIdxPost base v l p I w) := by
  obtain ⟨ao, cap, rfl, _, _, _, _⟩ := EgsAt.own h
  have H := box h; have HI := box hI; have HT := box ht
  clear h hI ht
  obtain ⟨N, HN⟩ : ∃ N, Box (l.length = N) := ⟨_, ⟨rfl⟩⟩
  rw [HN.out] at H HT hn ⊢
  go_enter Try.func65, Try.ntmps65
  go_wp2_with fail
  go_loopw [8] (fun t8 wr => ∃ k : Nat, k ≤ N ∧ t8 = .int .i64 (k : Int) ∧ Box ((∀ j (h : j < l.length), j < k → p l[j] = false) ∧ I k wr ∧ wr.ownsRow base 92 2 (.slice ao N cap) N (egVals l) ∧ w.heap.size ≤ wr.heap.size)) (fun t8 _ => N - (RowKit.intOf t8).toNat)
  case atStart => exact ⟨0, Nat.zero_le _, rfl, ⟨fun j _ h => by omega, HI.out, H.out, Nat.le_refl _⟩⟩
  case round =>
    obtain ⟨k, hk, rfl, HR⟩ := hrel
    by_cases hlt : k < N
    · have hkl : k < l.length := by rw [HN.out]; exact hlt
      obtain ⟨ro, rc, h1, hz1, hat, hz2, hz3⟩ := EgsAt.own HR.out.2.2.1
      clear hz1 hz2 hz3
      injection h1 with h1 h2 h3
      subst h1
      clear h2 h3
      obtain ⟨b, off, rfl, hb, hrow⟩ := hat.resolve_left (by intro h; rw [h] at hkl; simp at hkl)
      obtain ⟨hc0, hc1⟩ := hrow k hkl
      have Hc := box (HT.out.call k hkl wr HR.out.2.1 (fun b hb => (HR.out.2.2.1.lt b hb).2))
      have HF : Box (p l[k] = true → l.findIdx p = k) := ⟨fun h => by
        rw [List.findIdx_eq (by omega)]
        exact ⟨h, fun j hj => HR.out.1 j (by omega) hj⟩⟩
      have HNo : Box (p l[k] = false → ∀ j (h : j < l.length), j < k + 1 → p l[j] = false) := ⟨fun h j hj h2 => by
        by_cases e : j = k
        · subst e; exact h
        · exact HR.out.1 j hj (by omega)⟩
      obtain ⟨o, HOe⟩ : ∃ o, Box (l[k] = o) := ⟨_, ⟨rfl⟩⟩
      rw [HOe.out] at hc0 hc1 Hc HF HNo
      clear hrow hat
      go_wp2_with fail
      refine (Hc.out).mono ?_
      rintro e w' ⟨rfl, hi', hsz, hbl⟩
      have HO' := box (own_same HR.out.2.2.1 (fun b hb => hbl b (HR.out.2.2.1.lt b hb).1 (HR.out.2.2.1.lt b hb).2))
      have HI' := box hi'
      have HS' : Box (w.heap.size ≤ w'.heap.size) := ⟨Nat.le_trans HR.out.2.2.2 hsz⟩
      clear hi' hsz hbl
      cases hv : p o with
      | true =>
        have hfk := HF.out hv
        go_wp2_with fail
        go_ret
        refine ⟨by rw [HN.out]; exact HO'.out, HS'.out, Or.inl ⟨by rw [hfk, HN.out]; exact hlt, by rw [hfk]; rfl, by rw [hfk]; exact HI'.out⟩⟩
      | false =>
        have HN2 := box (HNo.out hv)
        go_wp2_with fail
        go_roundw
        case rel => exact ⟨k + 1, hlt, by go_num, ⟨HN2.out, HI'.out, HO'.out, HS'.out⟩⟩
        case measure => simp [RowKit.intOf]; omega
    · obtain rfl : k = N := by omega
      have HF : Box (l.findIdx p = l.length) := ⟨by
        rw [List.findIdx_eq_length]
        intro x hx
        obtain ⟨j, hj, rfl⟩ := List.mem_iff_getElem.1 hx
        exact HR.out.1 j hj (by have := HN.out; omega)⟩
      go_wp2_with fail
      go_ret
      exact ⟨by rw [HN.out]; exact HR.out.2.2.1, HR.out.2.2.2, Or.inr ⟨HF.out, rfl, by rw [HN.out]; exact HR.out.2.1⟩⟩
theorem Try.zeroEg (w : World) : (zeroValue 92).run Try.prog w = .ok (.agg #[.int .i64 0, .int .i64 0]) w := by kernel_rfl
/-- What DeleteFunc leaves. -/
def EgDelPost (base : Nat) (v : Value) (l : List EgM) (n : Nat) (I : Nat → World → Prop) (w : World) (e : Ending) (w' : World) : Prop :=
  ∃ v', e = .returned v' ∧ v'.ownBlock = v.ownBlock ∧ w'.ownsRow base 92 2 v' l.length (egVals l) ∧ I n w' ∧ w.heap.size ≤ w'.heap.size
theorem EgTurns.cells {base g : Nat} {lb : Array Value} {p : EgM → Bool} {l : List EgM} {v : Value} {I : Nat → World → Prop} (h : EgTurns base g lb p l v I) {b : Nat} (hb : v.ownBlock = some b) {j : Nat} : ∀ (vs : List Value) (o : Nat) (W : World), I j W → I j (W.setCells b o vs)
  | [], _, _, hI => hI
  | u :: r, o, W, hI => EgTurns.cells h hb r (o + 1) _ (h.store j W b o u hI hb)

set_option maxRecDepth 20000 in
set_option maxHeartbeats 4000000 in
theorem deleteFunc_egsT (l : List EgM) (v : Value) (base g : Nat) (lb : Array Value) (p : EgM → Bool) (I : Nat → World → Prop) (w : World) (h : w.ownsRow base 92 2 v l.length (egVals l)) (hn : l.length ≤ 9000000000000000000) (hI : I 0 w) (ht : EgTurns base g lb p l v I)
    (eg : ∀ args w, (callFunc g args).run Try.prog w = .ok (.enter g args) w) :
    Calls Try.prog 56 #[v, .func (.func g) #[] lb] w (EgDelPost base v (l.filter (fun x => !p x)) l.length I w) := by
  have HIx := box (indexFunc_egsT l v base g lb p I w h hn hI ht eg)
  obtain ⟨ao, cap, rfl, hz1, hz2, hz3, hcap⟩ := EgsAt.own h
  have HT := box ht
  clear h hI ht hz1 hz2 hz3
  obtain ⟨N, HN⟩ : ∃ N, Box (l.length = N) := ⟨_, ⟨rfl⟩⟩
  rw [HN.out] at HIx HT hn hcap ⊢
  go_enter Try.func56, Try.ntmps56
  go_wp2_with fail
  refine HIx.out.mono ?_
  rintro e w1 ⟨hown, hsz, hc⟩
  have HO := box hown; have HSz := box hsz
  rw [HN.out] at HO
  clear hown hsz HIx
  rcases hc with ⟨hf, rfl, hI1⟩ | ⟨hf, rfl, hI1⟩
  case inr =>
    have HF := box (filter_none hf)
    have HI1 := box hI1
    clear hf hI1
    go_wp2_with fail
    go_ret
    exact ⟨.slice ao N cap, rfl, rfl, by rw [HF.out, HN.out]; exact HO.out, by rw [← HN.out]; exact HI1.out, HSz.out⟩
  obtain ⟨k0, HK⟩ : ∃ k0, Box (l.findIdx p = k0) := ⟨_, ⟨rfl⟩⟩
  rw [HK.out] at hf hI1 ⊢
  have HS := box (DelG.start HK.out hf)
  have HI1 := box hI1
  rw [HN.out] at hf
  obtain ⟨b0, cap0, hv, hg1, hg2, hg3⟩ := ownsRow_shape HO.out (by intro h; injection h with _ h2 _; omega)
  injection hv with hv1 hv2 hv3
  subst hv1
  clear hv2 hv3 hI1
  have q0 : ((k0 : Int) == -1) = false := by simp
  go_wp2_with fail
  go_loopw [5, 6, 7] (fun t5 t6 _ wr => ∃ (i j : Nat) (ys : List EgM), t5 = .int .i64 (i : Int) ∧ t6 = .int .i64 (j : Int) ∧ i < j ∧ j ≤ N ∧ Box (DelG p l i j ys ∧ I j wr ∧ wr.ownsRow base 92 2 (.slice (some ⟨b0, 0, none⟩) N cap) N (egVals ys) ∧ w.heap.size ≤ wr.heap.size)) (fun _ t6 _ _ => N - (RowKit.intOf t6).toNat)
  case atStart => exact ⟨k0, k0 + 1, l, rfl, by go_num, by omega, by omega, ⟨HS.out, HI1.out, HO.out, HSz.out⟩⟩
  case round =>
    obtain ⟨i, j, ys, rfl, rfl, hij, hjN, HR⟩ := hrel
    have hyl := box HR.out.1.len
    by_cases hlt : j < N
    · have hjl : j < l.length := by rw [HN.out]; exact hlt
      have hy1 := egVals_at ys j (by rw [hyl.out]; exact hjl)
      have hyj : ys[j]'(by rw [hyl.out]; exact hjl) = l[j] := by
        have := HR.out.1.at hjl
        rw [List.getElem?_eq_getElem (by rw [hyl.out]; exact hjl)] at this
        exact Option.some.inj this
      rw [hyj] at hy1
      have c0 : wr.cell? ⟨b0, j * 2, none⟩ = some (.int .i64 l[j].frm) := by rw [HR.out.2.2.1.cellAt (j * 2) (by omega)]; exact hy1.1
      have c1 : wr.cell? ⟨b0, j * 2 + 1, none⟩ = some (.int .i64 l[j].to_) := by rw [HR.out.2.2.1.cellAt (j * 2 + 1) (by omega)]; exact hy1.2
      have hal := HT.out.alloc j wr (.cells #[.int .i64 l[j].frm, .int .i64 l[j].to_] 92) HR.out.2.1
      have HO1 := box (HR.out.2.2.1.alloc (.cells #[.int .i64 l[j].frm, .int .i64 l[j].to_] 92))
      have HC := box (HT.out.call j hjl _ hal (fun b hb => (HO1.out.lt b hb).2))
      have HSk := box (fun h => HR.out.1.skip hjl h)
      have HKe := box (fun h => HR.out.1.keep hjl h)
      obtain ⟨o, HOe⟩ : ∃ o, Box (l[j] = o) := ⟨_, ⟨rfl⟩⟩
      rw [HOe.out] at c0 c1 HC HSk HKe HO1
      have HX := box (Blk.new wr [.int .i64 o.frm, .int .i64 o.to_] 92)
      have hbl := (HR.out.2.2.1.lt b0 rfl).2
      clear hy1 hyj hal
      go_wp2_with fail
      have hbs := HR.out.2.2.1.lt b0 rfl
      refine HC.out.mono ?_
      rintro e w2 ⟨rfl, hi2, hs2, hb2⟩
      have HI2 := box hi2
      have HO2 := box (own_same HO1.out (fun b hb => hb2 b (HO1.out.lt b hb).1 (HO1.out.lt b hb).2))
      have HX2 : Box (Blk w2 wr.heap.size 92 [.int .i64 o.frm, .int .i64 o.to_]) := ⟨(hb2 _ (by omega) HX.out.lt).trans HX.out⟩
      have HS2 : Box (w.heap.size ≤ w2.heap.size) := ⟨by have := HR.out.2.2.2; simp at hs2; omega⟩
      clear hi2 hs2 hb2 hbl c0 c1
      cases hp : p o with
      | true =>
        have HD := box (HSk.out hp)
        go_wp2_with fail
        go_roundw
        case rel => exact ⟨i, j + 1, ys, rfl, by go_num, by omega, by omega, ⟨HD.out, HI2.out, HO2.out, HS2.out⟩⟩
        case measure => simp [RowKit.intOf]; omega
      | false =>
        have HD := box (HKe.out hp)
        have hil : i < ys.length := by rw [hyl.out, HN.out]; omega
        have hyi := egVals_at ys i hil
        have x0 := HX2.out.cell (i := 0) rfl
        have x1 := HX2.out.cell (i := 1) rfl
        have d0 : w2.cell? ⟨b0, i * 2, none⟩ = some (.int .i64 ys[i].frm) := by rw [HO2.out.cellAt (i * 2) (by omega)]; exact hyi.1
        have d1 : w2.cell? ⟨b0, i * 2 + 1, none⟩ = some (.int .i64 ys[i].to_) := by rw [HO2.out.cellAt (i * 2 + 1) (by omega)]; exact hyi.2
        have f0 := HO2.out.frozenAt (i * 2)
        have f1 := HO2.out.frozenAt (i * 2 + 1)
        have hst := ((HO2.out.stored (i * 2) (.int .i64 o.frm)).1.stored (i * 2 + 1) (.int .i64 o.to_)).1
        rw [egVals_set ys i o hil] at hst
        have HSt := box hst
        have HI3 := box (HT.out.store _ _ b0 (i * 2 + 1) (.int .i64 o.to_) (HT.out.store _ _ b0 (i * 2) (.int .i64 o.frm) HI2.out rfl) rfl)
        obtain ⟨yy, Hyy⟩ : ∃ yy, Box (ys[i] = yy) := ⟨_, ⟨rfl⟩⟩
        rw [Hyy.out] at d0 d1
        have hiN : (i : Int) < (N : Int) := by omega
        clear hyi hst
        go_wp2_with fail
        go_roundw
        case rel => exact ⟨i + 1, j + 1, ys.set i o, by go_num, by go_num, by omega, by omega, ⟨HD.out, HI3.out, HSt.out, by simpa using HS2.out⟩⟩
        case measure => simp [RowKit.intOf]; omega
    · obtain rfl : j = N := by omega
      have HDn : Box (i = (l.filter fun x => !p x).length ∧ ys.take i = l.filter fun x => !p x) := ⟨DelG.done (by rw [HN.out]; exact HR.out.1)⟩
      have hcl : ∀ ty, (Builtin.clear_ #[74] ty #[.slice (some ⟨b0, i * 2, none⟩) (j - i) (cap - i)]).run Try.prog wr = .ok (.tuple #[]) (wr.setCells b0 (i * 2) (Builtin.zeroCells #[.int .i64 0, .int .i64 0] (j - i)).toList) := fun ty =>
        run_clear_many wr 74 92 ty (.agg #[.int .i64 0, .int .i64 0]) Try.underlying74 Try.zeroEg (by simp [Value.cells, Value.oneCell']) (by decide) b0 (i * 2) (j - i) (cap - i)
          (fun t ht => by
            have ht2 : t < (j - i) * 2 := ht
            rw [HR.out.2.2.1.cellAt (i * 2 + t) (by omega), List.getElem?_eq_getElem (by rw [egVals_len, hyl.out, HN.out]; omega)]; rfl)
          (fun t _ => HR.out.2.2.1.frozenAt (i * 2 + t))
      obtain ⟨zs, k1, k2⟩ := setCells_ownG (Builtin.zeroCells #[.int .i64 0, .int .i64 0] (j - i)).toList (i * 2) j wr _ HR.out.2.2.1
      have HCut : Box ((wr.setCells b0 (i * 2) (Builtin.zeroCells #[.int .i64 0, .int .i64 0] (j - i)).toList).ownsRow base 92 2 (.slice (some ⟨b0, 0, none⟩) i cap) i (egVals (l.filter fun x => !p x))) := ⟨by
        have h1 := own_cutG k1 (i := i) (by omega)
        rw [k2, egVals_take, HDn.out.2] at h1
        exact h1⟩
      have HIe := box (HT.out.cells (b := b0) rfl (Builtin.zeroCells #[.int .i64 0, .int .i64 0] (j - i)).toList (i * 2) wr HR.out.2.1)
      have HSe : Box (w.heap.size ≤ (wr.setCells b0 (i * 2) (Builtin.zeroCells #[.int .i64 0, .int .i64 0] (j - i)).toList).heap.size) := ⟨by
        have h1 : ∀ (vs : List Value) (o : Nat) (W : World), (W.setCells b0 o vs).heap.size = W.heap.size := by
          intro vs
          induction vs with
          | nil => intro o W; rfl
          | cons u r ih => intro o W; rw [World.setCells, ih]; simp
        rw [h1]; exact HR.out.2.2.2⟩
      generalize wr.setCells b0 (i * 2) (Builtin.zeroCells #[.int .i64 0, .int .i64 0] (j - i)).toList = We at *
      have hiN : (i : Int) ≤ (j : Int) := by omega
      have hiC : (i : Int) ≤ (cap : Int) := by omega
      clear k1 k2
      go_wp2_with fail
      go_ret
      refine ⟨.slice (some ⟨b0, 0, none⟩) i cap, rfl, rfl, ?_, ?_, HSe.out⟩
      · rw [← HDn.out.1]; exact HCut.out
      · exact HIe.out
end
end Go.Proofs.Ytnnkejolfhhmlaa
