/- run.Like: what it answers. -/
import Derived.Test.YtnnkejolfhhmlaaGreatDelG
import Derived.Test.YtnnkejolfhhmlaaGreatOpsRow
import Derived.Deep.DeepMust
import Derived.Lib.LazyBuf
import Derived.Test.YtnnkejolfhhmlaaGreatPairM
import Derived.Test.YtnnkejolfhhmlaaGreatStampM
import Derived.Test.YtnnkejolfhhmlaaGreatSlOps
import Derived.BigQuiet
import Derived.Test.YtnnkejolfhhmlaaGreatPairW
import Derived.Test.YtnnkejolfhhmlaaGreatRunCheck
namespace Go.Proofs.YtnnkejolfhhmlaaGreat
section
open Go.RowKit Go.Lib

theorem opVals_set (l : List OpM) : ∀ (i : Nat) (x : OpM), i < l.length → (((opVals l).set (i * 3) (.int .i64 x.tx)).set (i * 3 + 1) (.int .i64 x.kind)).set (i * 3 + 2) (.int .i64 x.item) = opVals (l.set i x) := by
  induction l with
  | nil => intro i x h; simp at h
  | cons a r ih =>
    intro i x h
    cases i with
    | zero => rfl
    | succ i =>
      have := ih i x (by simpa using h)
      rw [show (i + 1) * 3 = i * 3 + 3 by omega]
      simp only [opVals, List.flatMap_cons, List.cons_append, List.nil_append, List.set_cons_succ] at this ⊢
      rw [this]
theorem opVals_take (l : List OpM) : ∀ i, (opVals l).take (i * 3) = opVals (l.take i) := by
  induction l with
  | nil => intro i; simp [opVals]
  | cons a r ih =>
    intro i
    cases i with
    | zero => simp [opVals]
    | succ i =>
      have := ih i
      rw [show (i + 1) * 3 = i * 3 + 3 by omega]
      simp only [opVals, List.flatMap_cons, List.cons_append, List.nil_append, List.take_succ_cons] at this ⊢
      rw [this]

/-- What a function called for each operation in turn does: it tells p, moves I on, and leaves the row. -/
structure OpTurns (base g : Nat) (lb : Array Value) (p : OpM → Bool) (l : List OpM) (v : Value) (I : Nat → World → Prop) : Prop where
  call : ∀ j (hj : j < l.length) W, I j W → (∀ b, v.ownBlock = some b → b < W.heap.size) → Calls Tryz.prog g (#[.agg #[.int .i64 l[j].tx, .int .i64 l[j].kind, .int .i64 l[j].item]] ++ lb) W fun e w' => e = .returned (.bool (p l[j])) ∧ I (j + 1) w' ∧ W.heap.size ≤ w'.heap.size ∧ ∀ b, base ≤ b → b < W.heap.size → w'.heap[b]? = W.heap[b]?
  alloc : ∀ j W o, I j W → I j (W.alloc o)
  store : ∀ j W b i u, I j W → v.ownBlock = some b → I j (W.setCell ⟨b, i, none⟩ u)
/-- What IndexFunc leaves. -/
def OpIdxPost (base : Nat) (v : Value) (l : List OpM) (p : OpM → Bool) (I : Nat → World → Prop) (w : World) (e : Ending) (w' : World) : Prop :=
  w'.ownsRow base 30 3 v l.length (opVals l) ∧ w.heap.size ≤ w'.heap.size ∧
    ((l.findIdx p < l.length ∧ e = .returned (.int .i64 (l.findIdx p : Nat)) ∧ I (l.findIdx p + 1) w') ∨ (l.findIdx p = l.length ∧ e = .returned (.int .i64 (-1)) ∧ I l.length w'))

set_option maxRecDepth 20000 in
set_option maxHeartbeats 1000000 in
theorem indexFunc_opsT (l : List OpM) (v : Value) (base g : Nat) (lb : Array Value) (p : OpM → Bool) (I : Nat → World → Prop) (w : World) (h : w.ownsRow base 30 3 v l.length (opVals l)) (hn : l.length ≤ 9000000000000000000) (hI : I 0 w) (ht : OpTurns base g lb p l v I)
    (eg : ∀ args w, (callFunc g args).run Tryz.prog w = .ok (.enter g args) w) :
    Calls Tryz.prog 51 #[v, .func (.func g) #[] lb] w (OpIdxPost base v l p I w) := by
  obtain ⟨ao, cap, rfl, _, _, _, _⟩ := OpsAt.own h
  have H := box h; have HI := box hI; have HT := box ht
  clear h hI ht
  obtain ⟨N, HN⟩ : ∃ N, Box (l.length = N) := ⟨_, ⟨rfl⟩⟩
  rw [HN.out] at H HT hn ⊢
  go_enter Tryz.func51, Tryz.ntmps51
  go_wp2_with fail
  go_loopw [8] (fun t8 wr => ∃ k : Nat, k ≤ N ∧ t8 = .int .i64 (k : Int) ∧ Box ((∀ j (h : j < l.length), j < k → p l[j] = false) ∧ I k wr ∧ wr.ownsRow base 30 3 (.slice ao N cap) N (opVals l) ∧ w.heap.size ≤ wr.heap.size)) (fun t8 _ => N - (RowKit.intOf t8).toNat)
  case atStart => exact ⟨0, Nat.zero_le _, rfl, ⟨fun j _ h => by omega, HI.out, H.out, Nat.le_refl _⟩⟩
  case round =>
    obtain ⟨k, hk, rfl, HR⟩ := hrel
    by_cases hlt : k < N
    · have hkl : k < l.length := by rw [HN.out]; exact hlt
      obtain ⟨ro, rc, h1, hz1, hat, hz2, hz3⟩ := OpsAt.own HR.out.2.2.1
      clear hz1 hz2 hz3
      injection h1 with h1 h2 h3
      subst h1
      clear h2 h3
      obtain ⟨b, off, rfl, hb, hrow⟩ := hat.resolve_left (by intro h; rw [h] at hkl; simp at hkl)
      obtain ⟨hc0, hc1, hc2⟩ := hrow k hkl
      have Hc := box (HT.out.call k hkl wr HR.out.2.1 (fun b hb => (HR.out.2.2.1.lt b hb).2))
      have HF : Box (p l[k] = true → l.findIdx p = k) := ⟨fun h => by
        rw [List.findIdx_eq (by omega)]
        exact ⟨h, fun j hj => HR.out.1 j (by omega) hj⟩⟩
      have HNo : Box (p l[k] = false → ∀ j (h : j < l.length), j < k + 1 → p l[j] = false) := ⟨fun h j hj h2 => by
        by_cases e : j = k
        · subst e; exact h
        · exact HR.out.1 j hj (by omega)⟩
      obtain ⟨o, HOe⟩ : ∃ o, Box (l[k] = o) := ⟨_, ⟨rfl⟩⟩
      rw [HOe.out] at hc0 hc1 hc2 Hc HF HNo
      clear hrow hat
      go_wp2_with fail
      refine (Hc.out).mono ?_
      rintro e w' ⟨rfl, hi', hsz, hbl⟩
      have HO' := box (own_same HR.out.2.2.1 (fun b hb => hbl b (HR.out.2.2.1.lt b hb).1 (HR.out.2.2.1.lt b hb).2))
      have HI' := box hi'
      have HS' : Box (w.heap.size ≤ w'.heap.size) := ⟨Nat.le_trans HR.out.2.2.2 hsz⟩
      clear hi' hsz hbl
      cases hv : p o with
      | true =>
        have hfk := HF.out hv
        go_wp2_with fail
        go_ret
        refine ⟨by rw [HN.out]; exact HO'.out, HS'.out, Or.inl ⟨by rw [hfk, HN.out]; exact hlt, by rw [hfk]; rfl, by rw [hfk]; exact HI'.out⟩⟩
      | false =>
        have HN2 := box (HNo.out hv)
        go_wp2_with fail
        go_roundw
        case rel => exact ⟨k + 1, hlt, by go_num, ⟨HN2.out, HI'.out, HO'.out, HS'.out⟩⟩
        case measure => simp [RowKit.intOf]; omega
    · obtain rfl : k = N := by omega
      have HF : Box (l.findIdx p = l.length) := ⟨by
        rw [List.findIdx_eq_length]
        intro x hx
        obtain ⟨j, hj, rfl⟩ := List.mem_iff_getElem.1 hx
        exact HR.out.1 j hj (by have := HN.out; omega)⟩
      go_wp2_with fail
      go_ret
      exact ⟨by rw [HN.out]; exact HR.out.2.2.1, HR.out.2.2.2, Or.inr ⟨HF.out, rfl, by rw [HN.out]; exact HR.out.2.1⟩⟩
theorem Tryz.zeroOp (w : World) : (zeroValue 30).run Tryz.prog w = .ok (.agg #[.int .i64 0, .int .i64 0, .int .i64 0]) w := by kernel_rfl
/-- What DeleteFunc leaves. -/
def OpDelPost (base : Nat) (v : Value) (l : List OpM) (n : Nat) (I : Nat → World → Prop) (w : World) (e : Ending) (w' : World) : Prop :=
  ∃ v', e = .returned v' ∧ v'.ownBlock = v.ownBlock ∧ w'.ownsRow base 30 3 v' l.length (opVals l) ∧ I n w' ∧ w.heap.size ≤ w'.heap.size
theorem OpTurns.cells {base g : Nat} {lb : Array Value} {p : OpM → Bool} {l : List OpM} {v : Value} {I : Nat → World → Prop} (h : OpTurns base g lb p l v I) {b : Nat} (hb : v.ownBlock = some b) {j : Nat} : ∀ (vs : List Value) (o : Nat) (W : World), I j W → I j (W.setCells b o vs)
  | [], _, _, hI => hI
  | u :: r, o, W, hI => OpTurns.cells h hb r (o + 1) _ (h.store j W b o u hI hb)

set_option maxRecDepth 20000 in
set_option maxHeartbeats 4000000 in
theorem deleteFunc_opsT (l : List OpM) (v : Value) (base g : Nat) (lb : Array Value) (p : OpM → Bool) (I : Nat → World → Prop) (w : World) (h : w.ownsRow base 30 3 v l.length (opVals l)) (hn : l.length ≤ 9000000000000000000) (hI : I 0 w) (ht : OpTurns base g lb p l v I)
    (eg : ∀ args w, (callFunc g args).run Tryz.prog w = .ok (.enter g args) w) :
    Calls Tryz.prog 30 #[v, .func (.func g) #[] lb] w (OpDelPost base v (l.filter (fun x => !p x)) l.length I w) := by
  have HIx := box (indexFunc_opsT l v base g lb p I w h hn hI ht eg)
  obtain ⟨ao, cap, rfl, hz1, hz2, hz3, hcap⟩ := OpsAt.own h
  have HT := box ht
  clear h hI ht hz1 hz2 hz3
  obtain ⟨N, HN⟩ : ∃ N, Box (l.length = N) := ⟨_, ⟨rfl⟩⟩
  rw [HN.out] at HIx HT hn hcap ⊢
  go_enter Tryz.func30, Tryz.ntmps30
  go_wp2_with fail
  refine HIx.out.mono ?_
  rintro e w1 ⟨hown, hsz, hc⟩
  have HO := box hown; have HSz := box hsz
  rw [HN.out] at HO
  clear hown hsz HIx
  rcases hc with ⟨hf, rfl, hI1⟩ | ⟨hf, rfl, hI1⟩
  case inr =>
    have HF := box (filter_none hf)
    have HI1 := box hI1
    clear hf hI1
    go_wp2_with fail
    go_ret
    exact ⟨.slice ao N cap, rfl, rfl, by rw [HF.out, HN.out]; exact HO.out, by rw [← HN.out]; exact HI1.out, HSz.out⟩
  obtain ⟨k0, HK⟩ : ∃ k0, Box (l.findIdx p = k0) := ⟨_, ⟨rfl⟩⟩
  rw [HK.out] at hf hI1 ⊢
  have HS := box (DelG.start HK.out hf)
  have HI1 := box hI1
  rw [HN.out] at hf
  obtain ⟨b0, cap0, hv, hg1, hg2, hg3⟩ := ownsRow_shape HO.out (by intro h; injection h with _ h2 _; omega)
  injection hv with hv1 hv2 hv3
  subst hv1
  clear hv2 hv3 hI1
  have q0 : ((k0 : Int) == -1) = false := by simp
  go_wp2_with fail
  go_loopw [5, 6, 7] (fun t5 t6 _ wr => ∃ (i j : Nat) (ys : List OpM), t5 = .int .i64 (i : Int) ∧ t6 = .int .i64 (j : Int) ∧ i < j ∧ j ≤ N ∧ Box (DelG p l i j ys ∧ I j wr ∧ wr.ownsRow base 30 3 (.slice (some ⟨b0, 0, none⟩) N cap) N (opVals ys) ∧ w.heap.size ≤ wr.heap.size)) (fun _ t6 _ _ => N - (RowKit.intOf t6).toNat)
  case atStart => exact ⟨k0, k0 + 1, l, rfl, by go_num, by omega, by omega, ⟨HS.out, HI1.out, HO.out, HSz.out⟩⟩
  case round =>
    obtain ⟨i, j, ys, rfl, rfl, hij, hjN, HR⟩ := hrel
    have hyl := box HR.out.1.len
    by_cases hlt : j < N
    · have hjl : j < l.length := by rw [HN.out]; exact hlt
      have hy1 := opVals_at ys j (by rw [hyl.out]; exact hjl)
      have hyj : ys[j]'(by rw [hyl.out]; exact hjl) = l[j] := by
        have := HR.out.1.at hjl
        rw [List.getElem?_eq_getElem (by rw [hyl.out]; exact hjl)] at this
        exact Option.some.inj this
      rw [hyj] at hy1
      have c0 : wr.cell? ⟨b0, j * 3, none⟩ = some (.int .i64 l[j].tx) := by rw [HR.out.2.2.1.cellAt (j * 3) (by omega)]; exact hy1.1
      have c1 : wr.cell? ⟨b0, j * 3 + 1, none⟩ = some (.int .i64 l[j].kind) := by rw [HR.out.2.2.1.cellAt (j * 3 + 1) (by omega)]; exact hy1.2.1
      have c2 : wr.cell? ⟨b0, j * 3 + 2, none⟩ = some (.int .i64 l[j].item) := by rw [HR.out.2.2.1.cellAt (j * 3 + 2) (by omega)]; exact hy1.2.2
      have hal := HT.out.alloc j wr (.cells #[.int .i64 l[j].tx, .int .i64 l[j].kind, .int .i64 l[j].item] 30) HR.out.2.1
      have HO1 := box (HR.out.2.2.1.alloc (.cells #[.int .i64 l[j].tx, .int .i64 l[j].kind, .int .i64 l[j].item] 30))
      have HC := box (HT.out.call j hjl _ hal (fun b hb => (HO1.out.lt b hb).2))
      have HSk := box (fun h => HR.out.1.skip hjl h)
      have HKe := box (fun h => HR.out.1.keep hjl h)
      obtain ⟨o, HOe⟩ : ∃ o, Box (l[j] = o) := ⟨_, ⟨rfl⟩⟩
      rw [HOe.out] at c0 c1 c2 HC HSk HKe HO1
      have HX := box (Blk.new wr [.int .i64 o.tx, .int .i64 o.kind, .int .i64 o.item] 30)
      have hbl := (HR.out.2.2.1.lt b0 rfl).2
      clear hy1 hyj hal
      go_wp2_with fail
      have hbs := HR.out.2.2.1.lt b0 rfl
      refine HC.out.mono ?_
      rintro e w2 ⟨rfl, hi2, hs2, hb2⟩
      have HI2 := box hi2
      have HO2 := box (own_same HO1.out (fun b hb => hb2 b (HO1.out.lt b hb).1 (HO1.out.lt b hb).2))
      have HX2 : Box (Blk w2 wr.heap.size 30 [.int .i64 o.tx, .int .i64 o.kind, .int .i64 o.item]) := ⟨(hb2 _ (by omega) HX.out.lt).trans HX.out⟩
      have HS2 : Box (w.heap.size ≤ w2.heap.size) := ⟨by have := HR.out.2.2.2; simp at hs2; omega⟩
      clear hi2 hs2 hb2 hbl c0 c1 c2
      cases hp : p o with
      | true =>
        have HD := box (HSk.out hp)
        go_wp2_with fail
        go_roundw
        case rel => exact ⟨i, j + 1, ys, rfl, by go_num, by omega, by omega, ⟨HD.out, HI2.out, HO2.out, HS2.out⟩⟩
        case measure => simp [RowKit.intOf]; omega
      | false =>
        have HD := box (HKe.out hp)
        have hil : i < ys.length := by rw [hyl.out, HN.out]; omega
        have hyi := opVals_at ys i hil
        have x0 := HX2.out.cell (i := 0) rfl
        have x1 := HX2.out.cell (i := 1) rfl
        have x2 := HX2.out.cell (i := 2) rfl
        have d0 : w2.cell? ⟨b0, i * 3, none⟩ = some (.int .i64 ys[i].tx) := by rw [HO2.out.cellAt (i * 3) (by omega)]; exact hyi.1
        have d1 : w2.cell? ⟨b0, i * 3 + 1, none⟩ = some (.int .i64 ys[i].kind) := by rw [HO2.out.cellAt (i * 3 + 1) (by omega)]; exact hyi.2.1
        have d2 : w2.cell? ⟨b0, i * 3 + 2, none⟩ = some (.int .i64 ys[i].item) := by rw [HO2.out.cellAt (i * 3 + 2) (by omega)]; exact hyi.2.2
        have f0 := HO2.out.frozenAt (i * 3)
        have f1 := HO2.out.frozenAt (i * 3 + 1)
        have f2 := HO2.out.frozenAt (i * 3 + 2)
        have hst := ((((HO2.out.stored (i * 3) (.int .i64 o.tx)).1.stored (i * 3 + 1) (.int .i64 o.kind)).1).stored (i * 3 + 2) (.int .i64 o.item)).1
        rw [opVals_set ys i o hil] at hst
        have HSt := box hst
        have HI3 := box (HT.out.store _ _ b0 (i * 3 + 2) (.int .i64 o.item) (HT.out.store _ _ b0 (i * 3 + 1) (.int .i64 o.kind) (HT.out.store _ _ b0 (i * 3) (.int .i64 o.tx) HI2.out rfl) rfl) rfl)
        obtain ⟨yy, Hyy⟩ : ∃ yy, Box (ys[i] = yy) := ⟨_, ⟨rfl⟩⟩
        rw [Hyy.out] at d0 d1 d2
        have hiN : (i : Int) < (N : Int) := by omega
        clear hyi hst
        go_wp2_with fail
        go_roundw
        case rel => exact ⟨i + 1, j + 1, ys.set i o, by go_num, by go_num, by omega, by omega, ⟨HD.out, HI3.out, HSt.out, by simpa using HS2.out⟩⟩
        case measure => simp [RowKit.intOf]; omega
    · obtain rfl : j = N := by omega
      have HDn : Box (i = (l.filter fun x => !p x).length ∧ ys.take i = l.filter fun x => !p x) := ⟨DelG.done (by rw [HN.out]; exact HR.out.1)⟩
      have hcl : ∀ ty, (Builtin.clear_ #[22] ty #[.slice (some ⟨b0, i * 3, none⟩) (j - i) (cap - i)]).run Tryz.prog wr = .ok (.tuple #[]) (wr.setCells b0 (i * 3) (Builtin.zeroCells #[.int .i64 0, .int .i64 0, .int .i64 0] (j - i)).toList) := fun ty =>
        run_clear_many wr 22 30 ty (.agg #[.int .i64 0, .int .i64 0, .int .i64 0]) Tryz.underlying22 Tryz.zeroOp (by simp [Value.cells, Value.oneCell']) (by decide) b0 (i * 3) (j - i) (cap - i)
          (fun t ht => by
            have ht2 : t < (j - i) * 3 := ht
            rw [HR.out.2.2.1.cellAt (i * 3 + t) (by omega), List.getElem?_eq_getElem (by rw [opVals_len, hyl.out, HN.out]; omega)]; rfl)
          (fun t _ => HR.out.2.2.1.frozenAt (i * 3 + t))
      obtain ⟨zs, k1, k2⟩ := setCells_ownG (Builtin.zeroCells #[.int .i64 0, .int .i64 0, .int .i64 0] (j - i)).toList (i * 3) j wr _ HR.out.2.2.1
      have HCut : Box ((wr.setCells b0 (i * 3) (Builtin.zeroCells #[.int .i64 0, .int .i64 0, .int .i64 0] (j - i)).toList).ownsRow base 30 3 (.slice (some ⟨b0, 0, none⟩) i cap) i (opVals (l.filter fun x => !p x))) := ⟨by
        have h1 := own_cutG k1 (i := i) (by omega)
        rw [k2, opVals_take, HDn.out.2] at h1
        exact h1⟩
      have HIe := box (HT.out.cells (b := b0) rfl (Builtin.zeroCells #[.int .i64 0, .int .i64 0, .int .i64 0] (j - i)).toList (i * 3) wr HR.out.2.1)
      have HSe : Box (w.heap.size ≤ (wr.setCells b0 (i * 3) (Builtin.zeroCells #[.int .i64 0, .int .i64 0, .int .i64 0] (j - i)).toList).heap.size) := ⟨by
        have h1 : ∀ (vs : List Value) (o : Nat) (W : World), (W.setCells b0 o vs).heap.size = W.heap.size := by
          intro vs
          induction vs with
          | nil => intro o W; rfl
          | cons u r ih => intro o W; rw [World.setCells, ih]; simp
        rw [h1]; exact HR.out.2.2.2⟩
      generalize wr.setCells b0 (i * 3) (Builtin.zeroCells #[.int .i64 0, .int .i64 0, .int .i64 0] (j - i)).toList = We at *
      have hiN : (i : Int) ≤ (j : Int) := by omega
      have hiC : (i : Int) ≤ (cap : Int) := by omega
      clear k1 k2
      go_wp2_with fail
      go_ret
      refine ⟨.slice (some ⟨b0, 0, none⟩) i cap, rfl, rfl, ?_, ?_, HSe.out⟩
      · rw [← HDn.out.1]; exact HCut.out
      · exact HIe.out
end
section
open Go.RowKit Go.Lib

theorem Tryz.infoOpE : (Tryz.prog.info? 30).map (fun i => (i.zero, i.size, i.bytes)) = some (some (.agg #[.int .i64 0, .int .i64 0, .int .i64 0]), 3, 24) := by kernel_rfl

set_option maxRecDepth 20000 in
set_option maxHeartbeats 2000000 in
theorem clone_ops (l : List OpM) (ao : Option Addr) (cap : Nat) (w : World) (h : OpsAt w ao l) (hnil : ao = none → cap = 0) (hn : l.length ≤ 1000000000) :
    Calls Tryz.prog 18 #[.slice ao l.length cap] w fun e w' => (∃ v, e = .returned v ∧ w'.ownsRow w.heap.size 30 3 v l.length (opVals l)) ∧ Below w.heap.size w w' := by
  have H := box h
  clear h
  have q0 := fun (w : World) (a : Option Addr) (n c : Nat) => _root_.Go.run_eql_slice_nil (P := Tryz.prog) w 22 30 a n c Tryz.underlying22
  cases ao with
  | none =>
    have hl : l = [] := H.out.resolve_right (by rintro ⟨b, off, h, _⟩; cases h)
    have hc := hnil rfl
    subst hl
    subst hc
    go_enter Tryz.func18, Tryz.ntmps18
    go_wp2_with fail
    go_ret
    exact ⟨⟨_, rfl, World.ownsRow_nil _ _ _ _⟩, Below.refl _ _⟩
  | some ad =>
    obtain ⟨i0, hi0, hz0, hz1, hz2⟩ := info_parts Tryz.infoOpE
    have Hcs : Box (∀ wx, Below w.heap.size w wx → ∀ j u, (opVals l)[j]? = some u → wx.cell? (ad.add j) = some u) := ⟨fun wx hx j u hu => by
      rcases H.out with h | ⟨b, off, h1, h2, h3⟩
      · subst h; simp [opVals] at hu
      · injection h1 with h1
        subst h1
        have hj : j < l.length * 3 := by have := (List.getElem?_eq_some_iff.1 hu).1; rw [opVals_len] at this; exact this
        rw [Addr.add_lit]
        refine (hx.cell (p := ⟨b, off + j, none⟩) h2).trans ?_
        have hk : j / 3 < l.length := by omega
        obtain ⟨a0, a1, a2⟩ := opVals_at l (j / 3) hk
        obtain ⟨c0, c1, c2⟩ := h3 (j / 3) hk
        rcases (show j % 3 = 0 ∨ j % 3 = 1 ∨ j % 3 = 2 by omega) with e | e | e
        · have ej : j / 3 * 3 = j := by omega
          rw [ej] at a0 c0
          rw [c0, ← a0, hu]
        · have ej : j / 3 * 3 + 1 = j := by omega
          rw [ej] at a1
          rw [show off + j / 3 * 3 + 1 = off + j by omega] at c1
          rw [c1, ← a1, hu]
        · have ej : j / 3 * 3 + 2 = j := by omega
          rw [ej] at a2
          rw [show off + j / 3 * 3 + 2 = off + j by omega] at c2
          rw [c2, ← a2, hu]⟩
    clear hnil
    go_enter Tryz.func18, Tryz.ntmps18
    have hown := World.ownsRow_lit (base := w.heap.size) (e := 30) (size := 3) w #[] 0 (Nat.le_refl _) (Nat.zero_le _) rfl
    have HB := box ((Below.refl w.heap.size w).alloc (Nat.le_refl _) (.cells #[] 30))
    go_wp2_with (at_builtin; go_must (refine wpList_append_own _ rfl _ _ 22 rfl w.heap.size 30 i0 _ 3 24 Tryz.underlying22 hi0 hz0 hz1 hz2 rfl (by decide) _ _ _ rfl hown ad l.length cap (opVals l) rfl (opVals_len l) (Hcs.out _ HB.out) (opVals_one' l) (by unfold maxLen; omega) (by omega) (by simp) ?_))
    intro v' w9 hown3 hgrow _
    have HB9 := box (HB.out.grown hgrow (by simp) (fun j hj => by have := hown.lt j hj; omega))
    clear hgrow hown
    go_wp2_with fail
    go_ret
    exact ⟨⟨_, rfl, by simpa using hown3⟩, HB9.out⟩
end
section
open Go.RowKit Go.Lib

/-- What run.Like answers: the runs are like each other; and whether all is right. -/
def RunM.likeOk (a b : List OpM) : Int := if RunM.check a ≠ 0 then RunM.check a else RunM.check b
def RunM.sameTo (a b : List OpM) (n : Nat) : Bool := (List.range n).all fun t => decide (RunM.of a t = RunM.of b t)
def RunM.like (a b : List OpM) : Bool := decide (RunM.check a = 0) && decide (RunM.check b = 0) && RunM.sameTo a b 12 && decide (PairM.sorted (RunM.pairs a) = PairM.sorted (RunM.pairs b))
theorem RunM.sameTo_succ (a b : List OpM) (n : Nat) : RunM.sameTo a b (n + 1) = (RunM.sameTo a b n && decide (RunM.of a n = RunM.of b n)) := by
  unfold RunM.sameTo; rw [List.range_succ, List.all_append]; simp
theorem RunM.sameTo_no {a b : List OpM} {t n : Nat} (h : t < n) (hd : decide (RunM.of a t = RunM.of b t) = false) : RunM.sameTo a b n = false := by
  unfold RunM.sameTo
  rw [List.all_eq_false]
  exact ⟨t, List.mem_range.2 h, by rw [hd]; simp⟩
theorem RunM.of_le (l : List OpM) (t : Nat) : (RunM.of l t).length ≤ l.length := List.length_filter_le _ _
end
section
open Go.RowKit Go.Lib

set_option maxRecDepth 20000 in
set_option maxHeartbeats 2000000 in
theorem like_f (o : OpM) (t K : Nat) (W : World) (h : Blk W K 3 [.int .i64 (t : Int)]) :
    Calls Tryz.prog 29 #[.agg #[.int .i64 o.tx, .int .i64 o.kind, .int .i64 o.item], .pointer (some ⟨K, 0, none⟩)] W fun e w' => e = .returned (.bool (!(o.tx == (t : Int)))) ∧ Below W.heap.size W w' := by
  obtain ⟨a0, a1, a2⟩ := o
  have k0 := h.cell (i := 0) rfl
  have s0 := h.lt
  clear h
  have q0 : (a0 != (t : Int)) = !(a0 == (t : Int)) := rfl
  have HB := box ((Below.refl W.heap.size W).alloc (Nat.le_refl _) (.cells #[.int .i64 a0, .int .i64 a1, .int .i64 a2] 30))
  generalize h0 : (a0 == (t : Int)) = c0 at *
  go_enter Tryz.func29, Tryz.ntmps29
  go_wp2_with fail
  go_ret
  exact ⟨rfl, HB.out⟩

theorem likeDel_any (l : List OpM) (t K : Nat) (v : Value) (w w1 : World) (hK : Blk w K 3 [.int .i64 (t : Int)]) (hl : l.length ≤ 200) (hb : Below w.heap.size w w1) (h : w1.ownsRow w.heap.size 30 3 v l.length (opVals l)) :
    Calls Tryz.prog 30 #[v, .func (.func 29) #[] #[.pointer (some ⟨K, 0, none⟩)]] w1 fun e w2 => ∃ v', e = .returned v' ∧ w2.ownsRow w.heap.size 30 3 v' (RunM.of l t).length (opVals (RunM.of l t)) ∧ Below w.heap.size w w2 := by
  have hT : OpTurns w.heap.size 29 #[.pointer (some ⟨K, 0, none⟩)] (fun o => !(o.tx == (t : Int))) l v (fun _ W => Below w.heap.size w W) := by
    refine ⟨fun j hj W hI _ => ?_, fun j W o hI => hI.alloc hI.size o, fun j W b i u hI hv => hI.setCell (p := ⟨b, i, none⟩) (h.lt b hv).1 u⟩
    have := like_f l[j] t K W (hK.below hI hK.lt)
    refine this.mono ?_
    rintro e w' ⟨rfl, hb'⟩
    exact ⟨rfl, below_tr hI hb', hb'.size, fun b _ h2 => hb'.block b h2⟩
  refine (deleteFunc_opsT l v w.heap.size 29 #[.pointer (some ⟨K, 0, none⟩)] _ (fun _ W => Below w.heap.size w W) w1 h (by omega) hb hT (enters_fn Tryz.func29 (by kernel_rfl) rfl)).mono ?_
  rintro e w2 ⟨v', rfl, _, ho, hI, _⟩
  have e1 : (l.filter fun x => !!(x.tx == (t : Int))) = RunM.of l t := by
    unfold RunM.of; congr 1; funext x; simp
  rw [e1] at ho
  exact ⟨v', rfl, ho, hI⟩
end
section
open Go.RowKit Go.Lib

set_option maxRecDepth 20000 in
set_option maxHeartbeats 2000000 in
theorem equal_prs (l m : List PairM) (ao bo : Option Addr) (cap cap' : Nat) (w : World) (h : PrsAt w ao l) (h' : PrsAt w bo m) (hn : l.length ≤ 9000000000000) (hm : m.length ≤ 9000000000000) :
    Calls Tryz.prog 31 #[.slice ao l.length cap, .slice bo m.length cap'] w fun e w' => e = .returned (.bool (decide (l = m))) ∧ ∃ n, w' = w.drewN n := by
  have H := box h; have H' := box h'
  clear h h'
  by_cases hl : l.length = m.length
  case neg =>
    have q0 : ((l.length : Int) == (m.length : Int)) = false := by simp; omega
    have q1 : ((l.length : Int) != (m.length : Int)) = true := by simp; omega
    have Hd : Box (decide (l = m) = false) := ⟨by
      rw [decide_eq_false_iff_not]
      rintro rfl; exact hl rfl⟩
    clear hl
    go_enter Tryz.func31, Tryz.ntmps31
    go_wp2_with fail
    go_ret
    exact ⟨by rw [Hd.out]; rfl, 0, rfl⟩
  have Hl := box hl
  rw [← hl]
  clear hl
  have q0 : ((l.length : Int) == (l.length : Int)) = true := by simp
  go_enter Tryz.func31, Tryz.ntmps31
  go_wp2_with fail
  go_loopw [13] (fun t13 wr => ∃ k n : Nat, wr = w.drewN n ∧ k ≤ l.length ∧ t13 = .int .i64 (k : Int) ∧ Box (∀ j (h : j < l.length) (h' : j < m.length), j < k → l[j] = m[j])) (fun t13 _ => l.length - (intOf t13).toNat)
  case atStart => exact ⟨0, 0, rfl, Nat.zero_le _, rfl, ⟨fun j _ _ h => by omega⟩⟩
  case round =>
    obtain ⟨k, n0, rfl, hk, rfl, Hall⟩ := hrel
    by_cases hlt : k < l.length
    · have hlt' : k < m.length := by have := Hl.out; omega
      obtain ⟨b, off, rfl, _, hrow⟩ := (H.out.resolve_left (by intro h; rw [h] at hlt; simp at hlt))
      obtain ⟨b', off', rfl, _, hrow'⟩ := (H'.out.resolve_left (by intro h; rw [h] at hlt'; simp at hlt'))
      obtain ⟨hc0, hc1, hc2, hc3⟩ := hrow k hlt
      obtain ⟨hd0, hd1, hd2, hd3⟩ := hrow' k hlt'
      have HN : Box (l[k] = m[k] → ∀ j (h : j < l.length) (h' : j < m.length), j < k + 1 → l[j] = m[j]) := ⟨fun he j h h' hj => by
        by_cases e : j = k
        · subst e; exact he
        · exact Hall.out j h h' (by omega)⟩
      have HD : Box (l[k] ≠ m[k] → decide (l = m) = false) := ⟨fun hne => by
        rw [decide_eq_false_iff_not]
        rintro rfl; exact hne rfl⟩
      generalize l[k] = o at *
      generalize m[k] = o' at *
      obtain ⟨a0, a1, a2, a3⟩ := o
      obtain ⟨c0, c1, c2, c3⟩ := o'
      simp only at hc0 hc1 hc2 hc3 hd0 hd1 hd2 hd3
      clear hrow hrow'
      cases e0 : (a0 == c0) with
      | false =>
        have Hne : Box ((PairM.mk a0 a1 a2 a3) ≠ PairM.mk c0 c1 c2 c3) := ⟨by intro h; injection h with h; subst h; simp at e0⟩
        go_wp2_with fail
        go_quiet (fail)
        go_wp2_with fail
        go_ret
        exact ⟨by rw [HD.out Hne.out]; rfl, n0 + nq, World.drewN_drewN _ _ _⟩
      | true =>
        cases e1 : (a1 == c1) with
        | false =>
          have Hne : Box ((PairM.mk a0 a1 a2 a3) ≠ PairM.mk c0 c1 c2 c3) := ⟨by intro h; injection h with _ h; subst h; simp at e1⟩
          go_wp2_with fail
          go_quiet (fail)
          go_wp2_with fail
          go_ret
          exact ⟨by rw [HD.out Hne.out]; rfl, n0 + nq, World.drewN_drewN _ _ _⟩
        | true =>
          cases e2 : (a2 == c2) with
          | false =>
            have Hne : Box ((PairM.mk a0 a1 a2 a3) ≠ PairM.mk c0 c1 c2 c3) := ⟨by intro h; injection h with _ _ h; subst h; simp at e2⟩
            go_wp2_with fail
            go_quiet (fail)
            go_wp2_with fail
            go_ret
            exact ⟨by rw [HD.out Hne.out]; rfl, n0 + nq, World.drewN_drewN _ _ _⟩
          | true =>
            cases e3 : (a3 == c3) with
            | false =>
              have Hne : Box ((PairM.mk a0 a1 a2 a3) ≠ PairM.mk c0 c1 c2 c3) := ⟨by intro h; injection h with _ _ _ h; subst h; simp at e3⟩
              go_wp2_with fail
              go_quiet (fail)
              go_wp2_with fail
              go_ret
              exact ⟨by rw [HD.out Hne.out]; rfl, n0 + nq, World.drewN_drewN _ _ _⟩
            | true =>
              have Heq : Box ((PairM.mk a0 a1 a2 a3) = PairM.mk c0 c1 c2 c3) := ⟨by
                rw [beq_iff_eq] at e0 e1 e2 e3
                rw [e0, e1, e2, e3]⟩
              go_wp2_with fail
              go_quiet (fail)
              go_wp2_with fail
              go_roundw
              case rel => exact ⟨k + 1, n0 + nq, rfl, hlt, by go_num, ⟨HN.out Heq.out⟩⟩
              case measure => simp [intOf]; omega
    · have Heq : Box (decide (l = m) = true) := ⟨by
        rw [decide_eq_true_eq]
        exact List.ext_getElem Hl.out (fun i h1 h2 => Hall.out i h1 h2 (by omega))⟩
      go_wp2_with fail
      go_ret
      exact ⟨by rw [Heq.out]; rfl, n0, rfl⟩
end
section
open Go.RowKit Go.Lib

set_option maxRecDepth 20000 in
set_option maxHeartbeats 4000000 in
theorem like_any (a b : List OpM) (ao bo : Option Addr) (ca cb : Nat) (w : World) (h : OpsAt w ao a) (h' : OpsAt w bo b) (hz : ao = none → ca = 0) (hz' : bo = none → cb = 0) (hf : RunM.Fits a) (hf' : RunM.Fits b) :
    Calls Tryz.prog 10 #[.slice ao a.length ca, .slice bo b.length cb] w fun e w' => e = .returned (.tuple #[.bool (RunM.like a b), .int .i64 (RunM.likeOk a b)]) ∧ Below w.heap.size w w' := by
  have HA := box h; have HB := box h'; have HZ := box hz; have HZ' := box hz'
  have HCa := box (fun W hb => runCheck_any a ao ca W (h.below hb (Nat.le_refl _)) hf)
  have HCb := box (fun W hb => runCheck_any b bo cb W (h'.below hb (Nat.le_refl _)) hf')
  clear h h' hz hz' hf hf'
  have HL : Box (RunM.like a b = (decide (RunM.check a = 0) && decide (RunM.check b = 0) && RunM.sameTo a b 12 && decide (PairM.sorted (RunM.pairs a) = PairM.sorted (RunM.pairs b)))) := ⟨rfl⟩
  have HO : Box (RunM.likeOk a b = if RunM.check a ≠ 0 then RunM.check a else RunM.check b) := ⟨rfl⟩
  have HKa := box (fun (hc : RunM.check a = 0) => RunM.check_ok hc)
  have HKb := box (fun (hc : RunM.check b = 0) => RunM.check_ok hc)
  obtain ⟨lk, Hlk⟩ : ∃ x, Box (RunM.like a b = x) := ⟨_, ⟨rfl⟩⟩
  obtain ⟨ok, Hok⟩ : ∃ x, Box (RunM.likeOk a b = x) := ⟨_, ⟨rfl⟩⟩
  rw [Hlk.out] at HL ⊢
  rw [Hok.out] at HO ⊢
  obtain ⟨ka, Hka⟩ : ∃ x, Box (RunM.check a = x) := ⟨_, ⟨rfl⟩⟩
  obtain ⟨kb, Hkb⟩ : ∃ x, Box (RunM.check b = x) := ⟨_, ⟨rfl⟩⟩
  rw [Hka.out] at HL HO HCa
  rw [Hkb.out] at HL HO HCb
  go_enter Tryz.func10, Tryz.ntmps10
  go_wp2_with fail
  refine (HCa.out _ (Below.refl _ _)).mono ?_
  rintro e w1 ⟨rfl, hb1⟩
  have HB1 := box hb1
  clear hb1
  cases e0 : (ka != 0) with
  | true =>
    have HE : Box (lk = false ∧ ok = ka) := ⟨by
      have : ka ≠ 0 := by simpa using e0
      refine ⟨by rw [HL.out, decide_eq_false this]; rfl, by rw [HO.out, if_pos this]⟩⟩
    go_wp2_with fail
    go_ret2
    exact ⟨by rw [HE.out.1, HE.out.2]; rfl, HB1.out⟩
  | false =>
  obtain rfl : ka = 0 := by simpa using e0
  go_wp2_with fail
  refine (HCb.out _ HB1.out).mono ?_
  rintro e w2 ⟨rfl, hb2⟩
  have HB2 := box (below_tr HB1.out hb2)
  clear hb2 HB1
  cases e1 : (kb != 0) with
  | true =>
    have HE : Box (lk = false ∧ ok = kb) := ⟨by
      have : kb ≠ 0 := by simpa using e1
      refine ⟨by rw [HL.out, decide_eq_false this]; simp, by rw [HO.out, if_neg (by simp)]⟩⟩
    go_wp2_with fail
    go_ret2
    exact ⟨by rw [HE.out.1, HE.out.2]; rfl, HB2.out⟩
  | false =>
  obtain rfl : kb = 0 := by simpa using e1
  have HOk : Box (ok = 0) := ⟨by rw [HO.out]; simp⟩
  have HL2 : Box (lk = (RunM.sameTo a b 12 && decide (PairM.sorted (RunM.pairs a) = PairM.sorted (RunM.pairs b)))) := ⟨by rw [HL.out]; simp⟩
  have hla := (HKa.out Hka.out).1
  have hlb := (HKb.out Hkb.out).1
  have HTa : Box (∀ o ∈ a, 0 ≤ o.tx ∧ o.tx < 12) := ⟨fun o ho => by have := RunM.bad_zero ((HKa.out Hka.out).2.2 o ho); omega⟩
  have HTb : Box (∀ o ∈ b, 0 ≤ o.tx ∧ o.tx < 12) := ⟨fun o ho => by have := RunM.bad_zero ((HKb.out Hkb.out).2.2 o ho); omega⟩
  clear HL HO HKa HKb Hlk Hok Hka Hkb HCa HCb
  go_wp2_with fail
  go_loopw [20] (fun t20 wr => ∃ t : Nat, t ≤ 12 ∧ t20 = .int .i64 (t : Int) ∧ Box (RunM.sameTo a b t = true ∧ Below w.heap.size w wr)) (fun t20 _ => 12 - (RowKit.intOf t20).toNat)
  case atStart => exact ⟨0, by omega, rfl, ⟨rfl, HB2.out⟩⟩
  case round =>
    obtain ⟨t, ht, rfl, HR⟩ := hrel
    by_cases h12 : t < 12
    · have h12i : (t : Int) < 12 := by omega
      go_upto_region 10 with (fail)
      refine name_world (fun W => Below w.heap.size w W ∧ Blk W wr.heap.size 3 [.int .i64 (t : Int)]) ⟨HR.out.2.alloc HR.out.2.size _, Blk.new _ _ _⟩ ?_
      rintro W1 ⟨hw1, hk1⟩
      have HW1 := box hw1; have HK1 := box hk1
      clear hw1 hk1
      generalize wr.heap.size = K at *
      go_wp2_with fail
      refine (clone_ops a ao ca W1 (HA.out.below HW1.out (Nat.le_refl _)) HZ.out (by omega)).mono ?_
      rintro e w3 ⟨⟨v3, rfl, ho3⟩, hb3⟩
      have HD3 := box (likeDel_any a t K v3 W1 w3 HK1.out hla hb3 ho3)
      clear ho3 hb3
      go_wp2_with fail
      refine HD3.out.mono ?_
      rintro e w4 ⟨v4, rfl, ho4, hb4⟩
      have HO4 := box ho4; have HB4 := box hb4
      have HW4 := box (below_tr HW1.out hb4)
      have HK4 := box (HK1.out.after hb4)
      clear ho4 hb4 HD3
      go_wp2_with fail
      refine (clone_ops b bo cb w4 (HB.out.below HW4.out (Nat.le_refl _)) HZ'.out (by omega)).mono ?_
      rintro e w5 ⟨⟨v5, rfl, ho5⟩, hb5⟩
      have HD5 := box (likeDel_any b t K v5 w4 w5 HK4.out hlb hb5 ho5)
      clear ho5 hb5
      go_wp2_with fail
      refine HD5.out.mono ?_
      rintro e w6 ⟨v6, rfl, ho6, hb6⟩
      have HW6 := box (below_tr HW4.out hb6)
      have ho4' := ownsRow_below HO4.out (hb6.mono (Nat.le_refl _))
      obtain ⟨o4, c4, rfl, hz4, hat4, hz5, hz6⟩ := OpsAt.own ho4'
      clear hz4 hz5 hz6
      obtain ⟨o6, c6, rfl, hz4, hat6, hz5, hz6⟩ := OpsAt.own ho6
      clear hz4 hz5 hz6
      have HQ := box (equal_ops (RunM.of a t) (RunM.of b t) o4 o6 c4 c6 w6 hat4 hat6 (by have := RunM.of_le a t; omega) (by have := RunM.of_le b t; omega))
      have HNo := box (fun hd => RunM.sameTo_no (a := a) (b := b) h12 hd)
      have HSu := box (RunM.sameTo_succ a b t)
      clear ho4' hat4 hat6 ho6 hb6 HD5 HO4
      generalize (RunM.of a t).length = n4 at *
      generalize (RunM.of b t).length = n6 at *
      go_wp2_with fail
      refine HQ.out.mono ?_
      rintro e w7 ⟨rfl, n7, rfl⟩
      have HW7 : Box (Below w.heap.size w (w6.drewN n7)) := ⟨below_tr HW6.out ⟨rfl, rfl, rfl, Nat.le_refl _, fun _ _ => rfl⟩⟩
      clear HQ
      generalize decide (RunM.of a t = RunM.of b t) = d at *
      cases d with
      | false =>
        have HE : Box (lk = false) := ⟨by rw [HL2.out, HNo.out rfl]; rfl⟩
        go_wp2_with fail
        go_ret2
        exact ⟨by rw [HE.out, HOk.out]; rfl, HW7.out⟩
      | true =>
        have HE : Box (RunM.sameTo a b (t + 1) = true ∧ Below w.heap.size w (w6.drewN n7)) := ⟨by rw [HSu.out, HR.out.1]; rfl, HW7.out⟩
        go_wp2_with fail
        go_roundw
        case rel => exact ⟨t + 1, by omega, by go_num, HE⟩
        case measure => simp [RowKit.intOf]; omega
    · obtain rfl : t = 12 := by omega
      have HE : Box (lk = decide (PairM.sorted (RunM.pairs a) = PairM.sorted (RunM.pairs b))) := ⟨by rw [HL2.out, HR.out.1]; rfl⟩
      have hlen : ∀ l : List OpM, l.length ≤ 200 → (PairM.sorted (RunM.pairs l)).length ≤ 40000 := fun l hl => by
        rw [(PairM.sorted_perm _).length_eq]
        refine Nat.le_trans (RunM.pairsTo_len l l.length) ?_
        exact Nat.mul_le_mul hl hl
      have hpa := hlen a hla
      have hpb := hlen b hlb
      clear hlen HL2
      go_wp2_with fail
      refine (pairs_any a ao ca wr (HA.out.below HR.out.2 (Nat.le_refl _)) hla HTa.out).mono ?_
      rintro e w3 ⟨⟨v3, rfl, ho3⟩, hb3⟩
      have HO3 := box ho3; have HW3 := box (below_tr HR.out.2 hb3)
      clear ho3 hb3
      go_wp2_with fail
      refine (pairs_any b bo cb w3 (HB.out.below HW3.out (Nat.le_refl _)) hlb HTb.out).mono ?_
      rintro e w4 ⟨⟨v4, rfl, ho4⟩, hb4⟩
      have HW4 := box (below_tr HW3.out hb4)
      have ho3' := ownsRow_below HO3.out hb4
      obtain ⟨o3, c3, rfl, hz4, hat3, hz5, hz6⟩ := PrsAt.own ho3'
      clear hz4 hz5 hz6
      obtain ⟨o4, c4, rfl, hz4, hat4, hz5, hz6⟩ := PrsAt.own ho4
      clear hz4 hz5 hz6
      have HQ := box (equal_prs _ _ o3 o4 c3 c4 w4 hat3 hat4 (by omega) (by omega))
      clear ho3' hat3 hat4 ho4 hb4 HO3 hpa hpb
      rw [← HE.out] at HQ
      generalize (PairM.sorted (RunM.pairs a)).length = n3 at *
      generalize (PairM.sorted (RunM.pairs b)).length = n4 at *
      go_wp2_with fail
      refine HQ.out.mono ?_
      rintro e w7 ⟨rfl, n7, rfl⟩
      go_wp2_with fail
      go_ret2
      exact ⟨by rw [HOk.out]; rfl, below_tr HW4.out ⟨rfl, rfl, rfl, Nat.le_refl _, fun _ _ => rfl⟩⟩
end
end Go.Proofs.YtnnkejolfhhmlaaGreat
