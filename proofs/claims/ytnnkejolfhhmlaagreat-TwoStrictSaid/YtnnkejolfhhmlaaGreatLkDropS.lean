/- The midst of Drop: what lies in memory. -/
import Derived.Test.YtnnkejolfhhmlaaGreatDelG
import Derived.Test.YtnnkejolfhhmlaaGreatLkW
import Derived.Test.YtnnkejolfhhmlaaGreatLkI
import Derived.Test.YtnnkejolfhhmlaaGreatLkAskQ
import Derived.Test.YtnnkejolfhhmlaaGreatInts
namespace Go.Proofs.YtnnkejolfhhmlaaGreat
section
open Go.RowKit Go.Lib

theorem lkValsSet (l : List LkM) : ∀ (i : Nat) (x : LkM), i < l.length → ((lkVals l).set (i * 2) (.int .i64 x.tx)).set (i * 2 + 1) (.int .i64 x.mode) = lkVals (l.set i x) := by
  induction l with
  | nil => intro i x h; simp at h
  | cons a r ih =>
    intro i x h
    cases i with
    | zero => rfl
    | succ i =>
      have := ih i x (by simpa using h)
      rw [show (i + 1) * 2 = i * 2 + 2 by omega]
      simp only [lkVals, List.flatMap_cons, List.cons_append, List.nil_append, List.set_cons_succ] at this ⊢
      rw [this]
theorem lkValsTake (l : List LkM) : ∀ i, (lkVals l).take (i * 2) = lkVals (l.take i) := by
  induction l with
  | nil => intro i; simp [lkVals]
  | cons a r ih =>
    intro i
    cases i with
    | zero => simp [lkVals]
    | succ i =>
      have := ih i
      rw [show (i + 1) * 2 = i * 2 + 2 by omega]
      simp only [lkVals, List.flatMap_cons, List.cons_append, List.nil_append, List.take_succ_cons] at this ⊢
      rw [this]

/-- What a function called for each edge in turn does: it tells p, moves I on, and leaves the row. -/
structure LkTurns (base g : Nat) (lb : Array Value) (p : LkM → Bool) (l : List LkM) (v : Value) (I : Nat → World → Prop) : Prop where
  call : ∀ j (hj : j < l.length) W, I j W → (∀ b, v.ownBlock = some b → b < W.heap.size) → Calls Tryz.prog g (#[.agg #[.int .i64 l[j].tx, .int .i64 l[j].mode]] ++ lb) W fun e w' => e = .returned (.bool (p l[j])) ∧ I (j + 1) w' ∧ W.heap.size ≤ w'.heap.size ∧ ∀ b, base ≤ b → b < W.heap.size → w'.heap[b]? = W.heap[b]?
  alloc : ∀ j W o, I j W → I j (W.alloc o)
  store : ∀ j W b i u, I j W → v.ownBlock = some b → I j (W.setCell ⟨b, i, none⟩ u)
/-- What IndexFunc leaves. -/
def LkIdxPost (base : Nat) (v : Value) (l : List LkM) (p : LkM → Bool) (I : Nat → World → Prop) (w : World) (e : Ending) (w' : World) : Prop :=
  w'.ownsRow base 137 2 v l.length (lkVals l) ∧ w.heap.size ≤ w'.heap.size ∧
    ((l.findIdx p < l.length ∧ e = .returned (.int .i64 (l.findIdx p : Nat)) ∧ I (l.findIdx p + 1) w') ∨ (l.findIdx p = l.length ∧ e = .returned (.int .i64 (-1)) ∧ I l.length w'))

set_option maxRecDepth 20000 in
set_option maxHeartbeats 1000000 in
theorem indexFunc_lksT (l : List LkM) (v : Value) (base g : Nat) (lb : Array Value) (p : LkM → Bool) (I : Nat → World → Prop) (w : World) (h : w.ownsRow base 137 2 v l.length (lkVals l)) (hn : l.length ≤ 9000000000000000000) (hI : I 0 w) (ht : LkTurns base g lb p l v I)
    (eg : ∀ args w, (callFunc g args).run Tryz.prog w = .ok (.enter g args) w) :
    Calls Tryz.prog 100 #[v, .func (.func g) #[] lb] w (LkIdxPost base v l p I w) := by
  obtain ⟨ao, cap, rfl, _, _, _, _⟩ := LksAt.own h
  have H := box h; have HI := box hI; have HT := box ht
  clear h hI ht
  obtain ⟨N, HN⟩ : ∃ N, Box (l.length = N) := ⟨_, ⟨rfl⟩⟩
  rw [HN.out] at H HT hn ⊢
  go_enter Tryz.func100, Tryz.ntmps100
  go_wp2_with fail
  go_loopw [8] (fun t8 wr => ∃ k : Nat, k ≤ N ∧ t8 = .int .i64 (k : Int) ∧ Box ((∀ j (h : j < l.length), j < k → p l[j] = false) ∧ I k wr ∧ wr.ownsRow base 137 2 (.slice ao N cap) N (lkVals l) ∧ w.heap.size ≤ wr.heap.size)) (fun t8 _ => N - (RowKit.intOf t8).toNat)
  case atStart => exact ⟨0, Nat.zero_le _, rfl, ⟨fun j _ h => by omega, HI.out, H.out, Nat.le_refl _⟩⟩
  case round =>
    obtain ⟨k, hk, rfl, HR⟩ := hrel
    by_cases hlt : k < N
    · have hkl : k < l.length := by rw [HN.out]; exact hlt
      obtain ⟨ro, rc, h1, hz1, hat, hz2, hz3⟩ := LksAt.own HR.out.2.2.1
      clear hz1 hz2 hz3
      injection h1 with h1 h2 h3
      subst h1
      clear h2 h3
      obtain ⟨b, off, rfl, hb, hrow⟩ := hat.resolve_left (by intro h; rw [h] at hkl; simp at hkl)
      obtain ⟨hc0, hc1⟩ := hrow k hkl
      have Hc := box (HT.out.call k hkl wr HR.out.2.1 (fun b hb => (HR.out.2.2.1.lt b hb).2))
      have HF : Box (p l[k] = true → l.findIdx p = k) := ⟨fun h => by
        rw [List.findIdx_eq (by omega)]
        exact ⟨h, fun j hj => HR.out.1 j (by omega) hj⟩⟩
      have HNo : Box (p l[k] = false → ∀ j (h : j < l.length), j < k + 1 → p l[j] = false) := ⟨fun h j hj h2 => by
        by_cases e : j = k
        · subst e; exact h
        · exact HR.out.1 j hj (by omega)⟩
      obtain ⟨o, HOe⟩ : ∃ o, Box (l[k] = o) := ⟨_, ⟨rfl⟩⟩
      rw [HOe.out] at hc0 hc1 Hc HF HNo
      clear hrow hat
      go_wp2_with fail
      refine (Hc.out).mono ?_
      rintro e w' ⟨rfl, hi', hsz, hbl⟩
      have HO' := box (own_same HR.out.2.2.1 (fun b hb => hbl b (HR.out.2.2.1.lt b hb).1 (HR.out.2.2.1.lt b hb).2))
      have HI' := box hi'
      have HS' : Box (w.heap.size ≤ w'.heap.size) := ⟨Nat.le_trans HR.out.2.2.2 hsz⟩
      clear hi' hsz hbl
      cases hv : p o with
      | true =>
        have hfk := HF.out hv
        go_wp2_with fail
        go_ret
        refine ⟨by rw [HN.out]; exact HO'.out, HS'.out, Or.inl ⟨by rw [hfk, HN.out]; exact hlt, by rw [hfk]; rfl, by rw [hfk]; exact HI'.out⟩⟩
      | false =>
        have HN2 := box (HNo.out hv)
        go_wp2_with fail
        go_roundw
        case rel => exact ⟨k + 1, hlt, by go_num, ⟨HN2.out, HI'.out, HO'.out, HS'.out⟩⟩
        case measure => simp [RowKit.intOf]; omega
    · obtain rfl : k = N := by omega
      have HF : Box (l.findIdx p = l.length) := ⟨by
        rw [List.findIdx_eq_length]
        intro x hx
        obtain ⟨j, hj, rfl⟩ := List.mem_iff_getElem.1 hx
        exact HR.out.1 j hj (by have := HN.out; omega)⟩
      go_wp2_with fail
      go_ret
      exact ⟨by rw [HN.out]; exact HR.out.2.2.1, HR.out.2.2.2, Or.inr ⟨HF.out, rfl, by rw [HN.out]; exact HR.out.2.1⟩⟩
theorem Tryz.zeroLk (w : World) : (zeroValue 137).run Tryz.prog w = .ok (.agg #[.int .i64 0, .int .i64 0]) w := by kernel_rfl
/-- What DeleteFunc leaves. -/
def LkDelPost (base : Nat) (v : Value) (l : List LkM) (n : Nat) (I : Nat → World → Prop) (w : World) (e : Ending) (w' : World) : Prop :=
  ∃ v', e = .returned v' ∧ v'.ownBlock = v.ownBlock ∧ w'.ownsRow base 137 2 v' l.length (lkVals l) ∧ I n w' ∧ w.heap.size ≤ w'.heap.size
theorem LkTurns.cells {base g : Nat} {lb : Array Value} {p : LkM → Bool} {l : List LkM} {v : Value} {I : Nat → World → Prop} (h : LkTurns base g lb p l v I) {b : Nat} (hb : v.ownBlock = some b) {j : Nat} : ∀ (vs : List Value) (o : Nat) (W : World), I j W → I j (W.setCells b o vs)
  | [], _, _, hI => hI
  | u :: r, o, W, hI => LkTurns.cells h hb r (o + 1) _ (h.store j W b o u hI hb)

set_option maxRecDepth 20000 in
set_option maxHeartbeats 4000000 in
theorem deleteFunc_lksT (l : List LkM) (v : Value) (base g : Nat) (lb : Array Value) (p : LkM → Bool) (I : Nat → World → Prop) (w : World) (h : w.ownsRow base 137 2 v l.length (lkVals l)) (hn : l.length ≤ 9000000000000000000) (hI : I 0 w) (ht : LkTurns base g lb p l v I)
    (eg : ∀ args w, (callFunc g args).run Tryz.prog w = .ok (.enter g args) w) :
    Calls Tryz.prog 98 #[v, .func (.func g) #[] lb] w (LkDelPost base v (l.filter (fun x => !p x)) l.length I w) := by
  have HIx := box (indexFunc_lksT l v base g lb p I w h hn hI ht eg)
  obtain ⟨ao, cap, rfl, hz1, hz2, hz3, hcap⟩ := LksAt.own h
  have HT := box ht
  clear h hI ht hz1 hz2 hz3
  obtain ⟨N, HN⟩ : ∃ N, Box (l.length = N) := ⟨_, ⟨rfl⟩⟩
  rw [HN.out] at HIx HT hn hcap ⊢
  go_enter Tryz.func98, Tryz.ntmps98
  go_wp2_with fail
  refine HIx.out.mono ?_
  rintro e w1 ⟨hown, hsz, hc⟩
  have HO := box hown; have HSz := box hsz
  rw [HN.out] at HO
  clear hown hsz HIx
  rcases hc with ⟨hf, rfl, hI1⟩ | ⟨hf, rfl, hI1⟩
  case inr =>
    have HF := box (filter_none hf)
    have HI1 := box hI1
    clear hf hI1
    go_wp2_with fail
    go_ret
    exact ⟨.slice ao N cap, rfl, rfl, by rw [HF.out, HN.out]; exact HO.out, by rw [← HN.out]; exact HI1.out, HSz.out⟩
  obtain ⟨k0, HK⟩ : ∃ k0, Box (l.findIdx p = k0) := ⟨_, ⟨rfl⟩⟩
  rw [HK.out] at hf hI1 ⊢
  have HS := box (DelG.start HK.out hf)
  have HI1 := box hI1
  rw [HN.out] at hf
  obtain ⟨b0, cap0, hv, hg1, hg2, hg3⟩ := ownsRow_shape HO.out (by intro h; injection h with _ h2 _; omega)
  injection hv with hv1 hv2 hv3
  subst hv1
  clear hv2 hv3 hI1
  have q0 : ((k0 : Int) == -1) = false := by simp
  go_wp2_with fail
  go_loopw [5, 6, 7] (fun t5 t6 _ wr => ∃ (i j : Nat) (ys : List LkM), t5 = .int .i64 (i : Int) ∧ t6 = .int .i64 (j : Int) ∧ i < j ∧ j ≤ N ∧ Box (DelG p l i j ys ∧ I j wr ∧ wr.ownsRow base 137 2 (.slice (some ⟨b0, 0, none⟩) N cap) N (lkVals ys) ∧ w.heap.size ≤ wr.heap.size)) (fun _ t6 _ _ => N - (RowKit.intOf t6).toNat)
  case atStart => exact ⟨k0, k0 + 1, l, rfl, by go_num, by omega, by omega, ⟨HS.out, HI1.out, HO.out, HSz.out⟩⟩
  case round =>
    obtain ⟨i, j, ys, rfl, rfl, hij, hjN, HR⟩ := hrel
    have hyl := box HR.out.1.len
    by_cases hlt : j < N
    · have hjl : j < l.length := by rw [HN.out]; exact hlt
      have hy1 := lkVals_at ys j (by rw [hyl.out]; exact hjl)
      have hyj : ys[j]'(by rw [hyl.out]; exact hjl) = l[j] := by
        have := HR.out.1.at hjl
        rw [List.getElem?_eq_getElem (by rw [hyl.out]; exact hjl)] at this
        exact Option.some.inj this
      rw [hyj] at hy1
      have c0 : wr.cell? ⟨b0, j * 2, none⟩ = some (.int .i64 l[j].tx) := by rw [HR.out.2.2.1.cellAt (j * 2) (by omega)]; exact hy1.1
      have c1 : wr.cell? ⟨b0, j * 2 + 1, none⟩ = some (.int .i64 l[j].mode) := by rw [HR.out.2.2.1.cellAt (j * 2 + 1) (by omega)]; exact hy1.2
      have hal := HT.out.alloc j wr (.cells #[.int .i64 l[j].tx, .int .i64 l[j].mode] 137) HR.out.2.1
      have HO1 := box (HR.out.2.2.1.alloc (.cells #[.int .i64 l[j].tx, .int .i64 l[j].mode] 137))
      have HC := box (HT.out.call j hjl _ hal (fun b hb => (HO1.out.lt b hb).2))
      have HSk := box (fun h => HR.out.1.skip hjl h)
      have HKe := box (fun h => HR.out.1.keep hjl h)
      obtain ⟨o, HOe⟩ : ∃ o, Box (l[j] = o) := ⟨_, ⟨rfl⟩⟩
      rw [HOe.out] at c0 c1 HC HSk HKe HO1
      have HX := box (Blk.new wr [.int .i64 o.tx, .int .i64 o.mode] 137)
      have hbl := (HR.out.2.2.1.lt b0 rfl).2
      clear hy1 hyj hal
      go_wp2_with fail
      have hbs := HR.out.2.2.1.lt b0 rfl
      refine HC.out.mono ?_
      rintro e w2 ⟨rfl, hi2, hs2, hb2⟩
      have HI2 := box hi2
      have HO2 := box (own_same HO1.out (fun b hb => hb2 b (HO1.out.lt b hb).1 (HO1.out.lt b hb).2))
      have HX2 : Box (Blk w2 wr.heap.size 137 [.int .i64 o.tx, .int .i64 o.mode]) := ⟨(hb2 _ (by omega) HX.out.lt).trans HX.out⟩
      have HS2 : Box (w.heap.size ≤ w2.heap.size) := ⟨by have := HR.out.2.2.2; simp at hs2; omega⟩
      clear hi2 hs2 hb2 hbl c0 c1
      cases hp : p o with
      | true =>
        have HD := box (HSk.out hp)
        go_wp2_with fail
        go_roundw
        case rel => exact ⟨i, j + 1, ys, rfl, by go_num, by omega, by omega, ⟨HD.out, HI2.out, HO2.out, HS2.out⟩⟩
        case measure => simp [RowKit.intOf]; omega
      | false =>
        have HD := box (HKe.out hp)
        have hil : i < ys.length := by rw [hyl.out, HN.out]; omega
        have hyi := lkVals_at ys i hil
        have x0 := HX2.out.cell (i := 0) rfl
        have x1 := HX2.out.cell (i := 1) rfl
        have d0 : w2.cell? ⟨b0, i * 2, none⟩ = some (.int .i64 ys[i].tx) := by rw [HO2.out.cellAt (i * 2) (by omega)]; exact hyi.1
        have d1 : w2.cell? ⟨b0, i * 2 + 1, none⟩ = some (.int .i64 ys[i].mode) := by rw [HO2.out.cellAt (i * 2 + 1) (by omega)]; exact hyi.2
        have f0 := HO2.out.frozenAt (i * 2)
        have f1 := HO2.out.frozenAt (i * 2 + 1)
        have hst := ((HO2.out.stored (i * 2) (.int .i64 o.tx)).1.stored (i * 2 + 1) (.int .i64 o.mode)).1
        rw [lkValsSet ys i o hil] at hst
        have HSt := box hst
        have HI3 := box (HT.out.store _ _ b0 (i * 2 + 1) (.int .i64 o.mode) (HT.out.store _ _ b0 (i * 2) (.int .i64 o.tx) HI2.out rfl) rfl)
        obtain ⟨yy, Hyy⟩ : ∃ yy, Box (ys[i] = yy) := ⟨_, ⟨rfl⟩⟩
        rw [Hyy.out] at d0 d1
        have hiN : (i : Int) < (N : Int) := by omega
        clear hyi hst
        go_wp2_with fail
        go_roundw
        case rel => exact ⟨i + 1, j + 1, ys.set i o, by go_num, by go_num, by omega, by omega, ⟨HD.out, HI3.out, HSt.out, by simpa using HS2.out⟩⟩
        case measure => simp [RowKit.intOf]; omega
    · obtain rfl : j = N := by omega
      have HDn : Box (i = (l.filter fun x => !p x).length ∧ ys.take i = l.filter fun x => !p x) := ⟨DelG.done (by rw [HN.out]; exact HR.out.1)⟩
      have hcl : ∀ ty, (Builtin.clear_ #[132] ty #[.slice (some ⟨b0, i * 2, none⟩) (j - i) (cap - i)]).run Tryz.prog wr = .ok (.tuple #[]) (wr.setCells b0 (i * 2) (Builtin.zeroCells #[.int .i64 0, .int .i64 0] (j - i)).toList) := fun ty =>
        run_clear_many wr 132 137 ty (.agg #[.int .i64 0, .int .i64 0]) Tryz.underlying132 Tryz.zeroLk (by simp [Value.cells, Value.oneCell']) (by decide) b0 (i * 2) (j - i) (cap - i)
          (fun t ht => by
            have ht2 : t < (j - i) * 2 := ht
            rw [HR.out.2.2.1.cellAt (i * 2 + t) (by omega), List.getElem?_eq_getElem (by rw [lkVals_len, hyl.out, HN.out]; omega)]; rfl)
          (fun t _ => HR.out.2.2.1.frozenAt (i * 2 + t))
      obtain ⟨zs, k1, k2⟩ := setCells_ownG (Builtin.zeroCells #[.int .i64 0, .int .i64 0] (j - i)).toList (i * 2) j wr _ HR.out.2.2.1
      have HCut : Box ((wr.setCells b0 (i * 2) (Builtin.zeroCells #[.int .i64 0, .int .i64 0] (j - i)).toList).ownsRow base 137 2 (.slice (some ⟨b0, 0, none⟩) i cap) i (lkVals (l.filter fun x => !p x))) := ⟨by
        have h1 := own_cutG k1 (i := i) (by omega)
        rw [k2, lkValsTake, HDn.out.2] at h1
        exact h1⟩
      have HIe := box (HT.out.cells (b := b0) rfl (Builtin.zeroCells #[.int .i64 0, .int .i64 0] (j - i)).toList (i * 2) wr HR.out.2.1)
      have HSe : Box (w.heap.size ≤ (wr.setCells b0 (i * 2) (Builtin.zeroCells #[.int .i64 0, .int .i64 0] (j - i)).toList).heap.size) := ⟨by
        have h1 : ∀ (vs : List Value) (o : Nat) (W : World), (W.setCells b0 o vs).heap.size = W.heap.size := by
          intro vs
          induction vs with
          | nil => intro o W; rfl
          | cons u r ih => intro o W; rw [World.setCells, ih]; simp
        rw [h1]; exact HR.out.2.2.2⟩
      generalize wr.setCells b0 (i * 2) (Builtin.zeroCells #[.int .i64 0, .int .i64 0] (j - i)).toList = We at *
      have hiN : (i : Int) ≤ (j : Int) := by omega
      have hiC : (i : Int) ≤ (cap : Int) := by omega
      clear k1 k2
      go_wp2_with fail
      go_ret
      refine ⟨.slice (some ⟨b0, 0, none⟩) i cap, rfl, rfl, ?_, ?_, HSe.out⟩
      · rw [← HDn.out.1]; exact HCut.out
      · exact HIe.out
end
section
open Go.RowKit Go.Lib

set_option maxRecDepth 20000 in
set_option maxHeartbeats 2000000 in
theorem drop_f (W : World) (x : LkM) (tx : Int) (Tb : Nat) (hT : W.cell? ⟨Tb, 0, none⟩ = some (.int .i64 tx)) (hTb : Tb < W.heap.size) :
    Calls Tryz.prog 97 #[.agg #[.int .i64 x.tx, .int .i64 x.mode], .pointer (some ⟨Tb, 0, none⟩)] W fun e w' => e = .returned (.bool (x.tx == tx)) ∧ w' = W.alloc (.cells #[.int .i64 x.tx, .int .i64 x.mode] 137) := by
  obtain ⟨xt, xm⟩ := x
  go_enter Tryz.func97, Tryz.ntmps97
  go_wp2_with fail
  go_ret
  exact ⟨rfl, rfl⟩
theorem grown_alloc {w W : World} {row : Option Nat} (h : w.grownBy W row) (o : Obj) : w.grownBy (W.alloc o) row :=
  ⟨h.os, h.tape, h.output, by rw [World.size_alloc]; have := h.size; omega, fun k hk hr => (Below.heap_alloc _ _ _ (Nat.lt_of_lt_of_le hk h.size)).trans (h.block k hk hr)⟩
theorem grown_store {w W : World} {b : Nat} (h : w.grownBy W (some b)) (i : Nat) (u : Value) : w.grownBy (W.setCell ⟨b, i, none⟩ u) (some b) :=
  ⟨h.os, h.tape, h.output, by rw [World.size_setCell]; exact h.size, fun k hk hr => (Below.heap_setCell _ _ _ _ (by show k ≠ b; rintro rfl; exact hr rfl)).trans (h.block k hk hr)⟩
/-- A row without the locks of a transaction. -/
def LkM.WithoutP (B : Nat) (v : Value) (l : List LkM) (tx : Int) (w : World) (e : Ending) (w' : World) : Prop :=
  ∃ v', e = .returned v' ∧ v'.ownBlock = v.ownBlock ∧ w'.ownsRow B 137 2 v' (LkM.without l tx).length (lkVals (LkM.without l tx)) ∧ w.grownBy w' v.ownBlock
theorem without_any (B : Nat) (l : List LkM) (v : Value) (tx : Int) (Tb : Nat) (w : World) (h : w.ownsRow B 137 2 v l.length (lkVals l)) (hT : Blk w Tb 3 [.int .i64 tx]) (hn : l.length ≤ 1000) :
    Calls Tryz.prog 98 #[v, .func (.func 97) #[] #[.pointer (some ⟨Tb, 0, none⟩)]] w (LkM.WithoutP B v l tx w) := by
  have hTn : v.ownBlock ≠ some Tb := hT.ne_own h (by decide)
  have hTk : ∀ W, w.grownBy W v.ownBlock → Blk W Tb 3 [.int .i64 tx] := fun W hg => hT.grown hg hTn
  refine (deleteFunc_lksT l v B 97 #[.pointer (some ⟨Tb, 0, none⟩)] (fun x => x.tx == tx) (fun _ W => w.grownBy W v.ownBlock) w h (by omega) ⟨rfl, rfl, rfl, Nat.le_refl _, fun _ _ _ => rfl⟩
    { call := fun j hj W hI _ => (drop_f W l[j] tx Tb ((hTk W hI).cell rfl) (hTk W hI).lt).mono fun e w' ⟨h1, h2⟩ => ⟨h1, by rw [h2]; exact grown_alloc hI _, by rw [h2]; simp, fun b _ hb => by rw [h2]; exact Below.heap_alloc _ _ _ hb⟩
      alloc := fun j W o hI => grown_alloc hI o
      store := fun j W b i u hI hb => by rw [hb] at hI ⊢; exact grown_store hI i u } (enters_fn Tryz.func97 (by kernel_rfl) rfl)).mono ?_
  rintro e w' ⟨v', rfl, hob, hown, hg, _⟩
  exact ⟨v', rfl, hob, hown, hg⟩
namespace LkM
theorem serve_step {held r : List LkM} {a : LkM} {g : List Int} (h : can held a = true) : serve (a :: r).length held (a :: r) g = serve r.length (give held a) r (g ++ [a.tx]) := by
  show serve (r.length + 1) held (a :: r) g = _
  have : serve (r.length + 1) held (a :: r) g = if can held a = true then serve r.length (give held a) r (g ++ [a.tx]) else (held, a :: r, g) := rfl
  rw [this, if_pos h]
theorem serve_stop {held r : List LkM} {a : LkM} {g : List Int} (h : can held a = false) : serve (a :: r).length held (a :: r) g = (held, a :: r, g) := by
  have : serve (r.length + 1) held (a :: r) g = if can held a = true then serve r.length (give held a) r (g ++ [a.tx]) else (held, a :: r, g) := rfl
  show serve (r.length + 1) held (a :: r) g = _
  rw [this, if_neg (by rw [h]; simp)]
theorem serve_nil {held : List LkM} {g : List Int} : serve ([] : List LkM).length held [] g = (held, [], g) := rfl
theorem drop_step (tx : Int) {x : LiM} {r out : List LiM} {g : List Int} : dropGo tx (x :: r) out g = dropGo tx r (if (dropItem x tx g).1.held = [] then out else out ++ [(dropItem x tx g).1]) (dropItem x tx g).2 := rfl
/-- What Drop answers. -/
def DropPost (t : List LiM) (tx : Int) (w : World) (e : Ending) (w' : World) : Prop :=
  Below w.heap.size w w' ∧ ((dropE t tx ≠ 0 ∧ e = .returned (.tuple #[.slice none 0 0, .slice none 0 0, .int .i64 (dropE t tx)])) ∨
    (dropE t tx = 0 ∧ ∃ ao cap ga gc, e = .returned (.tuple #[.slice ao (drop t tx).1.length cap, .slice ga (drop t tx).2.length gc, .int .i64 0]) ∧ LisIn w' w.heap.size ao (drop t tx).1 ∧ IntsAt w' ga (drop t tx).2 ∧ ∀ b o, ga = some ⟨b, o, none⟩ → w.heap.size ≤ b))
end LkM
end
section
open Go.RowKit Go.Lib

theorem ownsRow_same {w w' : World} {B e size n : Nat} {v : Value} {xs : List Value} (h : w.ownsRow B e size v n xs) (hk : ∀ b, v.ownBlock = some b → w'.heap[b]? = w.heap[b]?) : w'.ownsRow B e size v n xs := by
  refine ⟨h.1, h.2.imp id ?_⟩
  rintro ⟨g, cap, cur, rfl, h1, h2, h3⟩
  exact ⟨g, cap, cur, rfl, h1, (hk g rfl).trans h2, h3⟩
namespace LkM
theorem RowIn.keep {W W' : World} {lo : Nat} {v : Value} {l : List LkM} (h : RowIn W lo v l) (hb : ∀ b, v.ownBlock = some b → W'.heap[b]? = W.heap[b]?) (hs : W.heap.size ≤ W'.heap.size) : RowIn W' lo v l := by
  obtain ⟨a, c, rfl, h1, h2, h3⟩ := h
  exact ⟨a, c, rfl, lks_moved h1 hb hs, h2, h3⟩
/-- Two rows that do not lie in one block. -/
def Off (v u : Value) : Prop := ∀ b, v.ownBlock = some b → u.ownBlock ≠ some b
theorem Off.of {w : World} {b1 e1 s1 n1 b2 e2 s2 n2 : Nat} {v1 v2 : Value} {x1 x2 : List Value} (h1 : w.ownsRow b1 e1 s1 v1 n1 x1) (h2 : w.ownsRow b2 e2 s2 v2 n2 x2) (he : e1 ≠ e2) : Off v1 v2 := by
  intro b hb hb2
  rcases row_ne h1 h2 he with h | h
  · rw [h] at hb; cases hb
  · exact h (hb.trans hb2.symm)

/-- The two calls that delete, and the two slices stored. -/
structure DelS (W0 : World) (B Tb X : Nat) (tx it : Int) (h0 q0 : Value) (held queue : List LkM) (b3 b7 b9 b11 : Bool) (v3 v7 : Value) (W : World) : Prop where
  xeq : W0.heap.size = X
  hq : Off h0 q0
  hX : h0.ownBlock ≠ some X ∧ q0.ownBlock ≠ some X
  hB : (∀ b, h0.ownBlock = some b → B ≤ b) ∧ (∀ b, q0.ownBlock = some b → B ≤ b) ∧ B ≤ X
  t0 : Blk W Tb 3 [.int .i64 tx]
  box : Blk W X 134 [.int .i64 it, if b9 = true then v3 else h0, if b11 = true then v7 else q0]
  held0 : b3 = false → W.ownsRow B 137 2 h0 held.length (lkVals held)
  held1 : b3 = true → v3.ownBlock = h0.ownBlock ∧ W.ownsRow B 137 2 v3 (without held tx).length (lkVals (without held tx))
  que0 : b7 = false → W.ownsRow B 137 2 q0 queue.length (lkVals queue)
  que1 : b7 = true → v7.ownBlock = q0.ownBlock ∧ W.ownsRow B 137 2 v7 (without queue tx).length (lkVals (without queue tx))
  frm : ∀ b, b < X → h0.ownBlock ≠ some b → q0.ownBlock ≠ some b → W.heap[b]? = W0.heap[b]?
  below : Below B W0 W
section
variable {W0 W W' : World} {B Tb X : Nat} {tx it : Int} {h0 q0 v3 v7 : Value} {held queue : List LkM}
theorem DelS.call3 {b7 b11 : Bool} (h : DelS W0 B Tb X tx it h0 q0 held queue false b7 false b11 v3 v7 W) {u : Value} (hu : u.ownBlock = h0.ownBlock) (ho : W'.ownsRow B 137 2 u (without held tx).length (lkVals (without held tx))) (hg : W.grownBy W' h0.ownBlock) : DelS W0 B Tb X tx it h0 q0 held queue true b7 false b11 u v7 W' := by
  have hqg : ∀ z : Value, z.ownBlock = q0.ownBlock → z.ownBlock = none ∨ z.ownBlock ≠ h0.ownBlock := fun z hz => by
    cases hb : z.ownBlock with
    | none => exact Or.inl rfl
    | some b => exact Or.inr (fun e => h.hq b e.symm (hz.symm.trans hb))
  refine ⟨h.xeq, h.hq, h.hX, h.hB, h.t0.grown hg (h.t0.ne_own (h.held0 rfl) (by decide)), h.box.grown hg h.hX.1, (fun h1 => by cases h1), fun _ => ⟨hu, ho⟩, fun h1 => (h.que0 h1).kept hg (hqg _ rfl), fun h1 => ⟨(h.que1 h1).1, (h.que1 h1).2.kept hg (hqg _ (h.que1 h1).1)⟩, fun b h1 h2 h3 => ?_, ?_⟩
  · exact (hg.block b (by have := h.below.size; have := h.xeq; omega) (fun e => h2 e.symm)).trans (h.frm b h1 h2 h3)
  · exact h.below.grown hg (by have := h.below.size; have := h.xeq; have := h.hB.2.2; omega) h.hB.1
theorem DelS.call7 {b3 b9 : Bool} (h : DelS W0 B Tb X tx it h0 q0 held queue b3 false b9 false v3 v7 W) {u : Value} (hu : u.ownBlock = q0.ownBlock) (ho : W'.ownsRow B 137 2 u (without queue tx).length (lkVals (without queue tx))) (hg : W.grownBy W' q0.ownBlock) : DelS W0 B Tb X tx it h0 q0 held queue b3 true b9 false v3 u W' := by
  have hqg : ∀ z : Value, z.ownBlock = h0.ownBlock → z.ownBlock = none ∨ z.ownBlock ≠ q0.ownBlock := fun z hz => by
    cases hb : z.ownBlock with
    | none => exact Or.inl rfl
    | some b => exact Or.inr (fun e => h.hq b (hz.symm.trans hb) e.symm)
  refine ⟨h.xeq, h.hq, h.hX, h.hB, h.t0.grown hg (h.t0.ne_own (h.que0 rfl) (by decide)), h.box.grown hg h.hX.2, fun h1 => (h.held0 h1).kept hg (hqg _ rfl), fun h1 => ⟨(h.held1 h1).1, (h.held1 h1).2.kept hg (hqg _ (h.held1 h1).1)⟩, (fun h1 => by cases h1), fun _ => ⟨hu, ho⟩, fun b h1 h2 h3 => ?_, ?_⟩
  · exact (hg.block b (by have := h.below.size; have := h.xeq; omega) (fun e => h3 e.symm)).trans (h.frm b h1 h2 h3)
  · exact h.below.grown hg (by have := h.below.size; have := h.xeq; have := h.hB.2.2; omega) h.hB.2.1
theorem DelS.put9 {b7 b11 : Bool} (h : DelS W0 B Tb X tx it h0 q0 held queue true b7 false b11 v3 v7 W) : DelS W0 B Tb X tx it h0 q0 held queue true b7 true b11 v3 v7 (W.setCell ⟨X, 1, none⟩ v3) := by
  have hx : ∀ z : Value, z.ownBlock ≠ some X → z.ownBlock ≠ some (⟨X, 1, none⟩ : Addr).block := fun z h => h
  refine ⟨h.xeq, h.hq, h.hX, h.hB, h.t0.other (by have := h.t0.ne h.box (by decide); exact this) _, h.box.set 1 _, (fun h1 => by cases h1), fun _ => ⟨(h.held1 rfl).1, ownsRow_setCell_other (h.held1 rfl).2 (by rw [(h.held1 rfl).1]; exact h.hX.1) _⟩, fun h1 => ownsRow_setCell_other (h.que0 h1) h.hX.2 _, fun h1 => ⟨(h.que1 h1).1, ownsRow_setCell_other (h.que1 h1).2 (by rw [(h.que1 h1).1]; exact h.hX.2) _⟩, fun b h1 h2 h3 => ?_, ?_⟩
  · exact (Below.heap_setCell _ _ _ _ (by show b ≠ X; omega)).trans (h.frm b h1 h2 h3)
  · exact h.below.setCell (by show B ≤ X; exact h.hB.2.2) _
theorem DelS.put11 {b3 b9 : Bool} (h : DelS W0 B Tb X tx it h0 q0 held queue b3 true b9 false v3 v7 W) : DelS W0 B Tb X tx it h0 q0 held queue b3 true b9 true v3 v7 (W.setCell ⟨X, 2, none⟩ v7) := by
  refine ⟨h.xeq, h.hq, h.hX, h.hB, h.t0.other (by have := h.t0.ne h.box (by decide); exact this) _, h.box.set 2 _, fun h1 => ownsRow_setCell_other (h.held0 h1) h.hX.1 _, fun h1 => ⟨(h.held1 h1).1, ownsRow_setCell_other (h.held1 h1).2 (by rw [(h.held1 h1).1]; exact h.hX.1) _⟩, (fun h1 => by cases h1), fun _ => ⟨(h.que1 rfl).1, ownsRow_setCell_other (h.que1 rfl).2 (by rw [(h.que1 rfl).1]; exact h.hX.2) _⟩, fun b h1 h2 h3 => ?_, ?_⟩
  · exact (Below.heap_setCell _ _ _ _ (by show b ≠ X; omega)).trans (h.frm b h1 h2 h3)
  · exact h.below.setCell (by show B ≤ X; exact h.hB.2.2) _
theorem DelS.form3 {b7 b9 b11 : Bool} (h : DelS W0 B Tb X tx it h0 q0 held queue true b7 b9 b11 v3 v7 W) : ∃ a c, v3 = .slice a (without held tx).length c := by
  obtain ⟨a, c, h1, _⟩ := LksAt.own (h.held1 rfl).2
  exact ⟨a, c, h1⟩
theorem DelS.form7 {b3 b9 b11 : Bool} (h : DelS W0 B Tb X tx it h0 q0 held queue b3 true b9 b11 v3 v7 W) : ∃ a c, v7 = .slice a (without queue tx).length c := by
  obtain ⟨a, c, h1, _⟩ := LksAt.own (h.que1 rfl).2
  exact ⟨a, c, h1⟩
end

/-- What a round of Drop begins with. -/
structure DropH (W0 : World) (B X : Nat) (h0 q0 g0 : Value) : Prop where
  xeq : W0.heap.size = X
  hB : B ≤ X
  hlt : ∀ b, h0.ownBlock = some b → B ≤ b ∧ b < X
  qlt : ∀ b, q0.ownBlock = some b → B ≤ b ∧ b < X
  glt : ∀ b, g0.ownBlock = some b → B ≤ b ∧ b < X
  hq : Off h0 q0
  hg : Off h0 g0
  qg : Off q0 g0
/-- The midst of a round of Drop. -/
structure DropM (W0 : World) (B X : Nat) (it : Int) (h0 q0 g0 : Value) (held queue : List LkM) (hv qv : Value) (gs : List Int) (gv : Value) (W : World) : Prop where
  c0 : W.cell? ⟨X, 0, none⟩ = some (.int .i64 it)
  c1 : W.cell? ⟨X, 1, none⟩ = some hv
  c2 : W.cell? ⟨X, 2, none⟩ = some qv
  z1 : W.frozen? ⟨X, 1, none⟩ = false
  z2 : W.frozen? ⟨X, 2, none⟩ = false
  xlt : X < W.heap.size
  held : W.ownsRow B 137 2 hv held.length (lkVals held)
  hat : ∀ b, hv.ownBlock = some b → h0.ownBlock = some b ∨ X < b
  queue : RowIn W B qv queue
  qat : qv.ownBlock = q0.ownBlock
  given : W.ownsRow B 3 1 gv gs.length (intVals gs)
  gat : ∀ b, gv.ownBlock = some b → g0.ownBlock = some b ∨ X < b
  heap : ∀ b, b < X → h0.ownBlock ≠ some b → q0.ownBlock ≠ some b → g0.ownBlock ≠ some b → W.heap[b]? = W0.heap[b]?
  below : Below B W0 W
section
variable {W0 W W' : World} {B Tb X : Nat} {tx it : Int} {h0 q0 g0 hv qv gv v3 v7 : Value} {held queue : List LkM} {gs : List Int}
theorem DelS.mid (h : DelS W0 B Tb X tx it h0 q0 held queue true true true true v3 v7 W) (st : DropH W0 B X h0 q0 g0) (hg : W0.ownsRow B 3 1 g0 gs.length (intVals gs)) : DropM W0 B X it h0 q0 g0 (without held tx) (without queue tx) v3 v7 gs g0 W := by
  have hb := h.box
  simp only [if_true] at hb
  refine ⟨hb.cell rfl, hb.cell rfl, hb.cell rfl, hb.frozen _, hb.frozen _, hb.lt, (h.held1 rfl).2, fun b h1 => Or.inl ((h.held1 rfl).1.symm.trans h1), RowIn.own (h.que1 rfl).2, (h.que1 rfl).1, ownsRow_same hg (fun b h1 => ?_), fun b h1 => Or.inl h1, fun b h1 h2 h3 _ => h.frm b h1 h2 h3, h.below⟩
  exact h.frm b (st.glt b h1).2 (fun e => st.hg b e h1) (fun e => st.qg b e h1)
theorem DropM.hX (h : DropM W0 B X it h0 q0 g0 held queue hv qv gs gv W) (st : DropH W0 B X h0 q0 g0) : hv.ownBlock ≠ some X := fun e => by
  rcases h.hat X e with h1 | h1
  · have := (st.hlt X h1).2; omega
  · omega
theorem DropM.gX (h : DropM W0 B X it h0 q0 g0 held queue hv qv gs gv W) (st : DropH W0 B X h0 q0 g0) : gv.ownBlock ≠ some X := fun e => by
  rcases h.gat X e with h1 | h1
  · have := (st.glt X h1).2; omega
  · omega
theorem DropM.hq (h : DropM W0 B X it h0 q0 g0 held queue hv qv gs gv W) (st : DropH W0 B X h0 q0 g0) : Off hv qv := fun b e1 e2 => by
  rw [h.qat] at e2
  rcases h.hat b e1 with h1 | h1
  · exact st.hq b h1 e2
  · have := (st.qlt b e2).2; omega
theorem DropM.gq (h : DropM W0 B X it h0 q0 g0 held queue hv qv gs gv W) (st : DropH W0 B X h0 q0 g0) : Off gv qv := fun b e1 e2 => by
  rw [h.qat] at e2
  rcases h.gat b e1 with h1 | h1
  · exact st.qg b e2 h1
  · have := (st.qlt b e2).2; omega
theorem DropM.after (h : DropM W0 B X it h0 q0 g0 held queue hv qv gs gv W) (st : DropH W0 B X h0 q0 g0) (hb : Below W.heap.size W W') : DropM W0 B X it h0 q0 g0 held queue hv qv gs gv W' := by
  have hx := h.xlt
  have hk : ∀ i, W'.cell? ⟨X, i, none⟩ = W.cell? ⟨X, i, none⟩ := fun i => hb.cell (p := ⟨X, i, none⟩) hx
  have hz : ∀ i, W'.frozen? ⟨X, i, none⟩ = W.frozen? ⟨X, i, none⟩ := fun i => World.frozen?_of_block (a := ⟨X, i, none⟩) (hb.block X hx)
  have hB := st.hB
  refine ⟨(hk 0).trans h.c0, (hk 1).trans h.c1, (hk 2).trans h.c2, (hz 1).trans h.z1, (hz 2).trans h.z2, by have := hb.size; omega, ownsRow_below h.held hb, h.hat, h.queue.keep (fun b e => ?_) hb.size, h.qat, ownsRow_below h.given hb, h.gat, fun b h1 h2 h3 h4 => (hb.block b (by omega)).trans (h.heap b h1 h2 h3 h4), h.below.trans (hb.mono (by omega))⟩
  rw [h.qat] at e
  exact hb.block b (by have := (st.qlt b e).2; omega)
theorem DropM.give {l : List LkM} (h : DropM W0 B X it h0 q0 g0 held queue hv qv gs gv W) (st : DropH W0 B X h0 q0 g0) (hG : GiveP W B X 0 hv l W') : ∃ ha hc, DropM W0 B X it h0 q0 g0 l queue (.slice ha l.length hc) qv gs gv W' := by
  obtain ⟨⟨ha, hc, hown, hcell, hat⟩, hcells, hfroz, hheap, hbel⟩ := hG
  have hx := h.xlt
  have hB := st.hB
  have hsz : W.heap.size ≤ W'.heap.size := (hbel 0 (Nat.zero_le _) (Nat.zero_le _) (Nat.zero_le _)).size
  refine ⟨ha, hc, ⟨(hcells 0 (by omega)).trans h.c0, hcell, (hcells 2 (by omega)).trans h.c2, (hfroz 1).trans h.z1, (hfroz 2).trans h.z2, by omega, hown, fun b e => ?_, h.queue.keep (fun b e => ?_) hsz, h.qat, ownsRow_same h.given (fun b e => ?_), h.gat, fun b h1 h2 h3 h4 => ?_, h.below.trans (hbel B hB (Nat.le_refl _) (by omega))⟩⟩
  · rcases hat with h1 | ⟨b', h1, h2⟩
    · exact h.hat b (h1.symm.trans e)
    · rw [h1] at e
      injection e with e
      exact Or.inr (by omega)
  · have e' := e
    rw [h.qat] at e'
    have := (st.qlt b e').2
    exact hheap b (by omega) (by omega) (fun e2 => h.hq st b e2 e)
  · exact hheap b (h.given.lt b e).2 (fun e2 => h.gX st (by rw [← e2]; exact e)) (Off.of h.given h.held (by decide) b e)
  · exact (hheap b (by omega) (by omega) (fun e => by
      rcases h.hat b e with h5 | h5
      · exact h2 h5
      · omega)).trans (h.heap b h1 h2 h3 h4)
theorem DropM.app {wa : World} {x : Int} {gg gcap : Nat} (h : DropM W0 B X it h0 q0 g0 held queue hv qv gs gv W) (st : DropH W0 B X h0 q0 g0) (hb : Below W.heap.size W wa) (ho : W'.ownsRow B 3 1 (.slice (some ⟨gg, 0, none⟩) (gs.length + 1) gcap) (gs.length + 1) (intVals gs ++ [.int .i64 x])) (hg : wa.grownBy W' gv.ownBlock) (hat : gv.ownBlock = some gg ∨ W.heap.size ≤ gg) :
    DropM W0 B X it h0 q0 g0 held queue hv qv (gs ++ [x]) (.slice (some ⟨gg, 0, none⟩) (gs.length + 1) gcap) W' := by
  have h := h.after st hb
  have hX := h.xlt
  have hB := st.hB
  have hXw : X < wa.heap.size := hX
  have hbx : W'.heap[X]? = wa.heap[X]? := hg.block X hX (fun e => h.gX st e.symm)
  have hk : ∀ i, W'.cell? ⟨X, i, none⟩ = wa.cell? ⟨X, i, none⟩ := fun i => World.cell?_of_block (a := ⟨X, i, none⟩) hbx
  have hz : ∀ i, W'.frozen? ⟨X, i, none⟩ = wa.frozen? ⟨X, i, none⟩ := fun i => World.frozen?_of_block (a := ⟨X, i, none⟩) hbx
  refine ⟨(hk 0).trans h.c0, (hk 1).trans h.c1, (hk 2).trans h.c2, (hz 1).trans h.z1, (hz 2).trans h.z2, by have := hg.size; omega, h.held.kept hg (row_ne h.held h.given (by decide)), h.hat, h.queue.keep (fun b e => ?_) hg.size, h.qat, ?_, fun b e => ?_, fun b h1 h2 h3 h4 => ?_, h.below.grown hg (by omega) (fun b e => (h.given.lt b e).1)⟩
  · have e' := e
    rw [h.qat] at e'
    have := (st.qlt b e').2
    exact hg.block b (by omega) (fun e2 => h.gq st b e2.symm e)
  · rw [intVals_append, List.length_append, List.length_singleton]; exact ho
  · have e : gg = b := Option.some.inj e
    subst e
    rcases hat with h1 | h1
    · exact h.gat _ h1
    · refine Or.inr ?_
      have := hb.size
      have := ‹DropM W0 B X it h0 q0 g0 held queue hv qv gs gv W›.xlt
      omega
  · exact (hg.block b (by omega) (fun e => by
      rcases h.gat b e.symm with h5 | h5
      · exact h4 h5
      · omega)).trans (h.heap b h1 h2 h3 h4)
theorem DropM.pop {a : LkM} {r : List LkM} {v : Value} (h : DropM W0 B X it h0 q0 g0 held (a :: r) hv qv gs gv W) (st : DropH W0 B X h0 q0 g0) (hv2 : RowIn W B v r) (hva : v.ownBlock = qv.ownBlock) : DropM W0 B X it h0 q0 g0 held r hv v gs gv (W.setCell ⟨X, 2, none⟩ v) := by
  have hX := h.xlt
  have hne : ∀ b, b ≠ X → (W.setCell ⟨X, 2, none⟩ v).heap[b]? = W.heap[b]? := fun b hb => Below.heap_setCell _ _ _ _ (by show b ≠ X; exact hb)
  refine ⟨(World.cell?_setCell_other W ⟨X, 2, none⟩ ⟨X, 0, none⟩ v (by intro e; injection e with _ e; omega)).trans h.c0, (World.cell?_setCell_other W ⟨X, 2, none⟩ ⟨X, 1, none⟩ v (by intro e; injection e with _ e; omega)).trans h.c1, World.cell?_setCell_same _ _ _ h.c2, by rw [World.frozen?_setCell]; exact h.z1, by rw [World.frozen?_setCell]; exact h.z2, by rw [World.size_setCell]; exact hX, ownsRow_setCell_other h.held (h.hX st) _, h.hat, hv2.keep (fun b e => hne b ?_) (by rw [World.size_setCell]; exact Nat.le_refl _), hva.trans h.qat, ownsRow_setCell_other h.given (h.gX st) _, h.gat, fun b h1 h2 h3 h4 => (hne b (by omega)).trans (h.heap b h1 h2 h3 h4), h.below.setCell (by show B ≤ X; exact st.hB) _⟩
  rw [hva, h.qat] at e
  have := (st.qlt b e).2
  omega
end

/-- Between two rounds of Drop. -/
structure DropS (B Tb : Nat) (tx : Int) (tv : Value) (t : List LiM) (v : Nat → Value) (k : Nat) (os : List LiM) (ov : Value) (u : Nat → Value) (gs : List Int) (gv : Value) (W : World) : Prop where
  hB : B ≤ W.heap.size
  hT : Tb < B
  t0 : Blk W Tb 3 [.int .i64 tx]
  tab : W.ownsRow B 134 3 tv t.length (liVals t v)
  rows : ∀ i, 2 * k ≤ i → i < 2 * t.length → W.ownsRow B 137 2 (v i) (row t i).length (lkVals (row t i))
  apart : ∀ i j, 2 * k ≤ i → i < 2 * t.length → 2 * k ≤ j → j < 2 * t.length → i ≠ j → Off (v i) (v j)
  out : W.ownsRow B 134 3 ov os.length (liVals os u)
  given : W.ownsRow B 3 1 gv gs.length (intVals gs)
  tabout : Off tv ov
  orows : ∀ i, i < 2 * os.length → RowIn W B (u i) (row os i)
  olt : ∀ i b, i < 2 * os.length → (u i).ownBlock = some b → b < W.heap.size
  ooff : ∀ i, i < 2 * os.length → Off (u i) ov ∧ Off (u i) gv ∧ ∀ j, 2 * k ≤ j → j < 2 * t.length → Off (u i) (v j)
section
variable {W0 W W' : World} {B Tb X k : Nat} {tx it : Int} {tv ov gv g' hv qv v3 v7 : Value} {t os : List LiM} {v u : Nat → Value} {held queue : List LkM} {gs gs' : List Int}
theorem DropS.start {W3 : World} (h : OwnT W3 B tv t v) (h50 : t.length ≤ 50) (hB : B ≤ W3.heap.size) (hT : Tb < B) (t0 : Blk W3 Tb 3 [.int .i64 tx]) : DropS B Tb tx tv t v 0 [] (.slice none 0 0) (fun _ => .slice none 0 0) [] (.slice none 0 0) W3 :=
  ⟨hB, hT, t0, h.tab, fun i _ hi => h.fam.own i (by omega), fun i j _ hi _ hj hij => h.fam.apart i j (by omega) (by omega) hij, World.ownsRow_nil _ _ _ _, World.ownsRow_nil _ _ _ _, (fun b _ h2 => by cases h2), fun i hi => absurd hi (by simp), fun i b hi => absurd hi (by simp), fun i hi => absurd hi (by simp)⟩
theorem DropS.head (h : DropS B Tb tx tv t v k os ov u gs gv W) (hk : k < t.length) : DropH W B W.heap.size (v (2 * k)) (v (2 * k + 1)) gv := by
  have r0 := h.rows (2 * k) (Nat.le_refl _) (by omega)
  have r1 := h.rows (2 * k + 1) (by omega) (by omega)
  exact ⟨rfl, h.hB, r0.lt, r1.lt, h.given.lt, h.apart _ _ (Nat.le_refl _) (by omega) (by omega) (by omega) (by omega), Off.of r0 h.given (by decide), Off.of r1 h.given (by decide)⟩
theorem DropS.box (h : DropS B Tb tx tv t v k os ov u gs gv W) (hk : k < t.length) (C : List Value) (hC : C = [.int .i64 t[k].item, v (2 * k), v (2 * k + 1)]) : DelS W B Tb W.heap.size tx t[k].item (v (2 * k)) (v (2 * k + 1)) t[k].held t[k].queue false false false false undef undef (W.alloc (.cells C.toArray 134)) := by
  subst hC
  have st := h.head hk
  have r0 := h.rows (2 * k) (Nat.le_refl _) (by omega)
  have r1 := h.rows (2 * k + 1) (by omega) (by omega)
  rw [row_held hk] at r0
  rw [row_queue hk] at r1
  exact ⟨rfl, st.hq, ⟨fun e => by have := (st.hlt _ e).2; omega, fun e => by have := (st.qlt _ e).2; omega⟩, ⟨fun b e => (st.hlt b e).1, fun b e => (st.qlt b e).1, st.hB⟩, h.t0.alloc _, Blk.new _ _ _, fun _ => r0.alloc _, (fun h1 => by cases h1), fun _ => r1.alloc _, (fun h1 => by cases h1), fun b h1 _ _ => Below.heap_alloc _ _ _ h1, (Below.refl _ _).alloc st.hB _⟩
theorem DropS.cells (h : DropS B Tb tx tv t v k os ov u gs gv W) (hk : k < t.length) : ∃ g ha hc qa qc, tv.ownBlock = some g ∧ g < W.heap.size ∧ v (2 * k) = .slice ha t[k].held.length hc ∧ v (2 * k + 1) = .slice qa t[k].queue.length qc ∧ W.cell? ⟨g, k * 3, none⟩ = some (.int .i64 t[k].item) ∧ W.cell? ⟨g, k * 3 + 1, none⟩ = some (.slice ha t[k].held.length hc) ∧ W.cell? ⟨g, k * 3 + 2, none⟩ = some (.slice qa t[k].queue.length qc) := by
  have r0 := h.rows (2 * k) (Nat.le_refl _) (by omega)
  have r1 := h.rows (2 * k + 1) (by omega) (by omega)
  rw [row_held hk] at r0
  rw [row_queue hk] at r1
  obtain ⟨ha, hc, f1, _⟩ := LksAt.own r0
  obtain ⟨qa, qc, f2, _⟩ := LksAt.own r1
  obtain ⟨e1, e2, e3⟩ := liVals_at (v := v) hk
  rw [f1] at e2
  rw [f2] at e3
  have htab := h.tab
  rcases htab.2 with ⟨_, h0⟩ | ⟨g, cap, cur, h1, _⟩
  · omega
  · rw [h1] at htab
    refine ⟨g, ha, hc, qa, qc, by rw [h1]; rfl, (htab.lt g rfl).2, f1, f2, ?_, ?_, ?_⟩
    · rw [htab.cellAt (k * 3) (by omega), e1]
    · rw [htab.cellAt (k * 3 + 1) (by omega), e2]
    · rw [htab.cellAt (k * 3 + 2) (by omega), e3]
theorem DropS.skip (h : DropS B Tb tx tv t v k os ov u gs gv W0) (hk : k < t.length) (hM : DropM W0 B W0.heap.size it (v (2 * k)) (v (2 * k + 1)) gv held queue hv qv gs' g' W) : DropS B Tb tx tv t v (k + 1) os ov u gs' g' W := by
  have st := h.head hk
  have r0 := h.rows (2 * k) (Nat.le_refl _) (by omega)
  have r1 := h.rows (2 * k + 1) (by omega) (by omega)
  have hsz := hM.below.size
  have hli : ∀ {z : Value} {n : Nat} {xs : List Value}, W0.ownsRow B 134 3 z n xs → W.ownsRow B 134 3 z n xs := fun hz => ownsRow_same hz (fun b e => hM.heap b (hz.lt b e).2 (fun e2 => Off.of hz r0 (by decide) b e e2) (fun e2 => Off.of hz r1 (by decide) b e e2) (fun e2 => Off.of hz h.given (by decide) b e e2))
  refine ⟨by have := h.hB; omega, h.hT, h.t0.below hM.below h.hT, hli h.tab, fun i hi hi2 => ?_, fun i j h1 h2 h3 h4 => h.apart i j (by omega) h2 (by omega) h4, hli h.out, hM.given, h.tabout, fun i hi => ?_, fun i b hi e => Nat.lt_of_lt_of_le (h.olt i b hi e) hsz, fun i hi => ?_⟩
  · have ri := h.rows i (by omega) hi2
    exact ownsRow_same ri (fun b e => hM.heap b (ri.lt b e).2 (h.apart i _ (by omega) hi2 (Nat.le_refl _) (by omega) (by omega) b e) (h.apart i _ (by omega) hi2 (by omega) (by omega) (by omega) b e) (Off.of ri h.given (by decide) b e))
  · obtain ⟨o1, o2, o3⟩ := h.ooff i hi
    exact (h.orows i hi).keep (fun b e => hM.heap b (h.olt i b hi e) (o3 (2 * k) (Nat.le_refl _) (by omega) b e) (o3 (2 * k + 1) (by omega) (by omega) b e) (o2 b e)) hsz
  · obtain ⟨o1, o2, o3⟩ := h.ooff i hi
    refine ⟨o1, fun b e e2 => ?_, fun j h1 h2 => o3 j (by omega) h2⟩
    rcases hM.gat b e2 with h5 | h5
    · exact o2 b e h5
    · have := h.olt i b hi e; omega
/-- What may be put behind the table. -/
structure May (B : Nat) (t : List LiM) (v : Nat → Value) (k : Nat) (ov gv : Value) (x : LiM) (hv qv : Value) (W : World) : Prop where
  held : RowIn W B hv x.held
  queue : RowIn W B qv x.queue
  lt : ∀ b, (hv.ownBlock = some b ∨ qv.ownBlock = some b) → b < W.heap.size
  off : ∀ z, (z = hv ∨ z = qv) → Off z ov ∧ Off z gv ∧ ∀ j, 2 * k ≤ j → j < 2 * t.length → Off z (v j)
theorem DropS.may (h : DropS B Tb tx tv t v k os ov u gs gv W0) (hk : k < t.length) (hM : DropM W0 B W0.heap.size it (v (2 * k)) (v (2 * k + 1)) gv held queue hv qv gs' g' W) : May B t v (k + 1) ov g' ⟨it, held, queue⟩ hv qv W := by
  have st := h.head hk
  have r1 := h.rows (2 * k + 1) (by omega) (by omega)
  have hn := h.skip hk hM
  refine ⟨RowIn.own hM.held, hM.queue, fun b e => ?_, fun z hz => ?_⟩
  · rcases e with e | e
    · exact (hM.held.lt b e).2
    · rw [hM.qat] at e
      have := (st.qlt b e).2; have := hM.below.size; omega
  · rcases hz with rfl | rfl
    · refine ⟨Off.of hM.held hn.out (by decide), Off.of hM.held hM.given (by decide), fun j h1 h2 b e e2 => ?_⟩
      rcases hM.hat b e with h5 | h5
      · exact h.apart (2 * k) j (Nat.le_refl _) (by omega) (by omega) h2 (by omega) b h5 e2
      · have := ((h.rows j (by omega) h2).lt b e2).2; omega
    · refine ⟨fun b e => ?_, fun b e e2 => hM.gq st b e2 e, fun j h1 h2 b e => ?_⟩
      · rw [hM.qat] at e
        exact Off.of r1 h.out (by decide) b e
      · rw [hM.qat] at e
        exact h.apart (2 * k + 1) j (by omega) (by omega) (by omega) h2 (by omega) b e
theorem DropS.put {wa : World} {x : LiM} {gg gcap : Nat} (h : DropS B Tb tx tv t v k os ov u gs gv W) (hm : May B t v k ov gv x hv qv W) (hb : Below W.heap.size W wa) (ho : W'.ownsRow B 134 3 (.slice (some ⟨gg, 0, none⟩) (os.length + 1) gcap) (os.length + 1) (liVals os u ++ [.int .i64 x.item, hv, qv])) (hg : wa.grownBy W' ov.ownBlock) (hat : ov.ownBlock = some gg ∨ W.heap.size ≤ gg) :
    DropS B Tb tx tv t v k (os ++ [x]) (.slice (some ⟨gg, 0, none⟩) (os.length + 1) gcap) (upd (upd u (2 * os.length) hv) (2 * os.length + 1) qv) gs gv W' := by
  have hs1 := hb.size
  have hs2 := hg.size
  have hB := h.hB
  have hblk : ∀ b, b < W.heap.size → ov.ownBlock ≠ some b → W'.heap[b]? = W.heap[b]? := fun b h1 h2 => (hg.block b (by omega) (fun e => h2 e.symm)).trans (hb.block b h1)
  have hlk : ∀ {z : Value} {n : Nat} {xs : List Value}, W.ownsRow B 137 2 z n xs → W'.ownsRow B 137 2 z n xs := fun hz => ownsRow_same hz (fun b e => hblk b (hz.lt b e).2 (Off.of hz h.out (by decide) b e))
  have hnew : ∀ z : Value, (∀ b, z.ownBlock = some b → b < W.heap.size) → Off z ov → Off z (.slice (some ⟨gg, 0, none⟩) (os.length + 1) gcap) := fun z hz hz2 b e e2 => by
    have e2 : gg = b := Option.some.inj e2
    subst e2
    rcases hat with h1 | h1
    · exact hz2 _ e h1
    · have := hz _ e; omega
  have hall : ∀ i, i < 2 * (os ++ [x]).length → (RowIn W' B (upd (upd u (2 * os.length) hv) (2 * os.length + 1) qv i) (row (os ++ [x]) i) ∧ (∀ b, (upd (upd u (2 * os.length) hv) (2 * os.length + 1) qv i).ownBlock = some b → b < W.heap.size) ∧ Off (upd (upd u (2 * os.length) hv) (2 * os.length + 1) qv i) ov ∧ Off (upd (upd u (2 * os.length) hv) (2 * os.length + 1) qv i) gv ∧ ∀ j, 2 * k ≤ j → j < 2 * t.length → Off (upd (upd u (2 * os.length) hv) (2 * os.length + 1) qv i) (v j)) := by
    intro i hi
    rw [List.length_append, List.length_singleton] at hi
    rw [row_snoc]
    by_cases e1 : i = 2 * os.length
    · subst e1
      rw [if_pos rfl, upd_other _ _ (by omega), upd_same]
      obtain ⟨o1, o2, o3⟩ := hm.off hv (Or.inl rfl)
      exact ⟨hm.held.keep (fun b e => hblk b (hm.lt b (Or.inl e)) (o1 b e)) (by omega), fun b e => hm.lt b (Or.inl e), o1, o2, o3⟩
    · rw [if_neg e1]
      by_cases e2 : i = 2 * os.length + 1
      · subst e2
        rw [if_pos rfl, upd_same]
        obtain ⟨o1, o2, o3⟩ := hm.off qv (Or.inr rfl)
        exact ⟨hm.queue.keep (fun b e => hblk b (hm.lt b (Or.inr e)) (o1 b e)) (by omega), fun b e => hm.lt b (Or.inr e), o1, o2, o3⟩
      · rw [if_neg e2, upd_other _ _ e2, upd_other _ _ e1]
        have hi' : i < 2 * os.length := by omega
        obtain ⟨o1, o2, o3⟩ := h.ooff i hi'
        exact ⟨(h.orows i hi').keep (fun b e => hblk b (h.olt i b hi' e) (o1 b e)) (by omega), fun b e => h.olt i b hi' e, o1, o2, o3⟩
  refine ⟨by omega, h.hT, ?_, ownsRow_same h.tab (fun b e => hblk b (h.tab.lt b e).2 (h.tabout b e)), fun i h1 h2 => hlk (h.rows i h1 h2), h.apart, ?_, ownsRow_same h.given (fun b e => hblk b (h.given.lt b e).2 (Off.of h.given h.out (by decide) b e)), hnew tv (fun b e => (h.tab.lt b e).2) h.tabout, fun i hi => (hall i hi).1, fun i b hi e => by have := (hall i hi).2.1 b e; omega, fun i hi => ⟨hnew _ (hall i hi).2.1 (hall i hi).2.2.1, (hall i hi).2.2.2⟩⟩
  · exact (hblk Tb (by have := h.hT; omega) (fun e => by have := (h.out.lt Tb e).1; have := h.hT; omega)).trans h.t0
  · rw [liVals_snoc os x u _ (fun i hi => by rw [upd_other _ _ (by omega), upd_other _ _ (by omega)]), upd_same, upd_other _ _ (by omega), upd_same, List.length_append, List.length_singleton]
    exact ho
theorem DropS.fin (h : DropS B Tb tx tv t v k os ov u gs gv W) : ∃ ao cap ga gc, ov = .slice ao os.length cap ∧ gv = .slice ga gs.length gc ∧ LisIn W B ao os ∧ IntsAt W ga gs ∧ ∀ b o, ga = some ⟨b, o, none⟩ → B ≤ b := by
  obtain ⟨ga, gc, f1, _, f2, _⟩ := IntsAt.own h.given
  have f3 : ∀ b o, ga = some ⟨b, o, none⟩ → B ≤ b := fun b o e => (h.given.lt b (by rw [f1, e]; rfl)).1
  have ho := h.out
  rcases ho.2 with ⟨h1, h2⟩ | ⟨g, cap, cur, h1, _⟩
  · exact ⟨none, 0, ga, gc, by rw [h1, h2], f1, Or.inl (List.eq_nil_of_length_eq_zero h2), f2, f3⟩
  · rw [h1] at ho
    refine ⟨_, cap, ga, gc, h1, f1, lis_of ho (fun k hk => ?_), f2, f3⟩
    have a := h.orows (2 * k) (by omega)
    have b := h.orows (2 * k + 1) (by omega)
    rw [row_held hk] at a
    rw [row_queue hk] at b
    exact ⟨a, b⟩
end
end LkM
end
end Go.Proofs.YtnnkejolfhhmlaaGreat
