/- A region that draws its order, calls and all: whatever the order, each operation is met once, under a relation on what has been done, what it yielded, and the world. -/
import Derived.Test.YtjbmkhalmmahkaaDag
import Derived.Orders
import Derived.Laws.Rows
namespace Go.Proofs.Ytjbmkhalmmahkaa
open Go

def Dag.turn (vals : Nat → Value) (i : Nat) (v : Value) : Nat → Value := fun j => if j = i then v else vals j
theorem Dag.turn_same (vals : Nat → Value) (i : Nat) (v : Value) : Dag.turn vals i v i = v := by simp [Dag.turn]
theorem Dag.turn_other (vals : Nat → Value) {i j : Nat} (v : Value) (h : j ≠ i) : Dag.turn vals i v j = vals j := by simp [Dag.turn, h]
theorem Dag.put_turn {ops : Array Oper} {vals : Nat → Value} {L : Array Bool} {a : Act} {i : Nat} {v : Value} (hL : L.getD i false = false) : ∀ n, Dag.put ops (Dag.turn vals i v) L n a = Dag.put ops vals L n a
  | 0 => rfl
  | n + 1 => by
    rw [Dag.put, Dag.put, Dag.put_turn hL n]
    by_cases e : n = i
    · subst e
      rw [if_neg (by rw [hL]; simp), if_neg (by rw [hL]; simp)]
    · rw [Dag.turn_other _ _ e]

theorem wpAny_dagv {P : Program} {md : Region.Mode} {ops : Array Oper} {Q : Exit → Act → World → Prop} (base : Act) (R : Array Bool → (Nat → Value) → World → Prop)
    (hok : Dag.Ok md ops base.tmps.size)
    (hstep : ∀ i, i < ops.size → ∀ o : Oper, ops[i]? = some o → ∀ L vals b w, Dag.At md ops vals base L b.eval → (∀ e ∈ o.after, Region.binds md e = true → L.getD e.on false = true) → L.getD i true = false → R L vals w →
      o.wp P b w (fun b' w' => ∃ v, b' = b.put o.dst v ∧ R (L.setIfInBounds i true) (Dag.turn vals i v) w') Q)
    (hend : ∀ L vals w, (∀ j, j < ops.size → L.getD j false = true) → R L vals w → Q .normal (Dag.all ops vals ops.size base) w) :
    ∀ fuel (L : Array Bool) (vals : Nat → Value) w, L.size = ops.size → ((List.range ops.size).filter fun i => !L.getD i false).length ≤ fuel → (∀ (j : Nat) (o : Oper), L.getD j false = true → ops[j]? = some o → ∀ e ∈ o.after, Region.binds md e = true → L.getD e.on false = true) → R L vals w →
      wpAny P md ops Q fuel L (Dag.put ops vals L ops.size base) w := by
  intro fuel
  induction fuel with
  | zero =>
    intro L vals w hs hf _ hR
    have hall : ∀ j, j < ops.size → L.getD j false = true := by
      intro j hj
      have h0 : ((List.range ops.size).filter fun i => !L.getD i false) = [] := List.eq_nil_of_length_eq_zero (by omega)
      have := (List.filter_eq_nil_iff.1 h0) j (by rw [List.mem_range]; exact hj)
      simpa using this
    refine ⟨?_, ?_⟩
    · rw [List.eq_nil_iff_forall_not_mem]
      intro j hj
      obtain ⟨h1, o, ho, _⟩ := mem_ready.1 hj
      have hlt := (Array.getElem?_eq_some_iff.1 ho).1
      have h2 := hall j hlt
      have hjs : j < L.size := by omega
      simp [hjs] at h1 h2
      rw [h2] at h1; cases h1
    · rw [Dag.put_all ops vals L base _ hall]
      exact hend L vals w hall hR
  | succ fuel ih =>
    intro L vals w hs hf hcl hR
    refine ⟨fun hr => ?_, fun i hi => ?_⟩
    · have hall := Dag.unlisted hok L hs hr
      rw [Dag.put_all ops vals L base _ hall]
      exact hend L vals w hall hR
    · obtain ⟨h1, o, ho, hafter⟩ := mem_ready.1 hi
      have hlt := (Array.getElem?_eq_some_iff.1 ho).1
      have hjs : i < L.size := by omega
      have hLi : L.getD i false = false := by simp [hjs] at h1 ⊢; exact h1
      have hat : Dag.At md ops vals base L (Dag.put ops vals L ops.size base).eval := ⟨fun v => rfl, fun x hx => Dag.put_eval_other _ (fun j o' _ ho' d hd e => hx j o' ho' (by injection e with e; rw [e]; exact hd)),
        fun j o' d hj ho' hd => Dag.put_eval hok ho' hd hj _ (Array.getElem?_eq_some_iff.1 ho').1, hcl, fun x hx => Dag.put_eval_late _ (fun j o' hj ho' d hd e => hx j o' hj ho' (by injection e with e; rw [e]; exact hd))⟩
      have hw := hstep i hlt o ho L vals _ w hat hafter h1 hR
      unfold wpOp
      simp only [ho]
      have hwt : Region.wanted o (yielded ops (Dag.put ops vals L ops.size base).tmps) = true := by simp [Region.wanted, hok.guard i o ho]
      rw [if_pos hwt]
      refine Or.inl (Oper.wp_mono ?_ hw)
      rintro b' w' ⟨v, rfl, hR'⟩
      have hnext := ih (L.setIfInBounds i true) (Dag.turn vals i v) w' (by simp [hs]) (by
          have hlen : ((List.range ops.size).filter fun k => !(L.setIfInBounds i true).getD k false).length < ((List.range ops.size).filter fun k => !L.getD k false).length := by
            refine Dag.filter_less (i := i) (fun k hk => ?_) (by rw [hLi]; rfl) (by simp [hjs]) _ (by rw [List.mem_range]; exact hlt)
            by_cases e : i = k
            · subst e; simp [hjs] at hk
            · rw [getD_set_ne false e] at hk; exact hk
          omega) (by
          intro j o' hj ho' e he hb
          by_cases ej : i = j
          · subst ej
            rw [ho] at ho'; cases ho'
            exact getD_set_true (hafter e he hb)
          · rw [getD_set_ne false ej] at hj
            exact getD_set_true (hcl j o' hj ho' e he hb)) hR'
      rw [Dag.put_set hok ho h1, if_pos hlt, Dag.put_turn hLi, Dag.turn_same] at hnext
      exact hnext

/-- The region's law. -/
theorem wp_region_dagv {P : Program} {ops : Array Oper} {Q : Exit → Act → World → Prop} {id : Nat} {a : Act} {w : World} (hm : P.follows .mixedOrders = true) (R : Array Bool → (Nat → Value) → World → Prop)
    (hok : Dag.fine .any ops a.tmps.size = true)
    (h0 : R (Array.replicate ops.size false) (fun _ => undef) w.drew)
    (hstep : ∀ i, i < ops.size → ∀ o : Oper, ops[i]? = some o → ∀ L vals b w, Dag.At .any ops vals a L b.eval → (∀ e ∈ o.after, Region.binds .any e = true → L.getD e.on false = true) → L.getD i true = false → R L vals w →
      o.wp P b w (fun b' w' => ∃ v, b' = b.put o.dst v ∧ R (L.setIfInBounds i true) (Dag.turn vals i v) w') Q)
    (hend : ∀ L vals w, (∀ j, j < ops.size → L.getD j false = true) → R L vals w → Q .normal (Dag.all ops vals ops.size a) w) :
    (Code.region id ops true).wp P Q a w := by
  refine wp_region_any hm ?_
  have h := wpAny_dagv (P := P) (Q := Q) a R (Dag.Ok.of hok) hstep hend ops.size (Array.replicate ops.size false) (fun _ => undef) w.drew (by simp) (by
    refine Nat.le_trans (List.length_filter_le _ _) ?_; simp) (by
    intro j o hj ho
    have hlt := (Array.getElem?_eq_some_iff.1 ho).1
    simp [hlt] at hj) h0
  rw [Dag.put_none] at h
  exact h
/-- An operation that yields. -/
theorem Dag.yields {P : Program} {o : Oper} {b : Act} {w w' : World} {K : Act → World → Prop} {Q : Exit → Act → World → Prop} (v : Value) (h : (execOp b.eval o).run P w = .ok (.value v) w') (hk : K (b.put o.dst v) w') : o.wp P b w K Q := by
  unfold Oper.wp
  rw [h]
  exact hk
/-- An operation that yields nothing. -/
theorem Dag.skips {P : Program} {o : Oper} {b : Act} {w w' : World} {K : Act → World → Prop} {Q : Exit → Act → World → Prop} (h : (execOp b.eval o).run P w = .ok .skip w') (hk : K (b.put o.dst undef) w') : o.wp P b w K Q := by
  unfold Oper.wp
  rw [h]
  exact hk
/-- A call that returns. -/
theorem Dag.calls {P : Program} {o : Oper} {b : Act} {w w' : World} {K : Act → World → Prop} {Q : Exit → Act → World → Prop} {f : FuncId} {args : Array Value} (h : (execOp b.eval o).run P w = .ok (.enter f args) w') (R : Value → World → Prop) (hc : Calls P f args w' fun e w'' => ∃ v, e = .returned v ∧ R v w'') (hk : ∀ v w'', R v w'' → K (b.put o.dst v) w'') : o.wp P b w K Q := by
  unfold Oper.wp
  rw [h, Oper.upon_enter]
  refine hc.mono ?_
  rintro e w'' ⟨v, rfl, hR⟩
  exact hk v w'' hR
end Go.Proofs.Ytjbmkhalmmahkaa
