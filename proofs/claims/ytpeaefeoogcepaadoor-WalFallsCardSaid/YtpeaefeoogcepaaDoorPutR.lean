/- A row that is appended to and stored back, in a region that draws its order. -/
import Derived.OrdersIn
import Derived.OwnWalkIn
import Derived.Laws.Rows
import Derived.Laws.Tables
import Derived.Orders
import Derived.Test.YtpeaefeoogcepaaDoorHeap
namespace Go.Proofs.YtpeaefeoogcepaaDoor
section
open Go

/-- The act where the listed ones of the first n operations have yielded. -/
def Dag.put (ops : Array Oper) (vals : Nat → Value) (L : Array Bool) : Nat → Act → Act
  | 0, a => a
  | n + 1, a => if L.getD n false = true then (Dag.put ops vals L n a).put ((ops[n]?).bind (·.dst)) (vals n) else Dag.put ops vals L n a
/-- The act where all have. -/
def Dag.all (ops : Array Oper) (vals : Nat → Value) : Nat → Act → Act
  | 0, a => a
  | n + 1, a => (Dag.all ops vals n a).put ((ops[n]?).bind (·.dst)) (vals n)
theorem Dag.put_all (ops : Array Oper) (vals : Nat → Value) (L : Array Bool) (a : Act) : ∀ n, (∀ j, j < n → L.getD j false = true) → Dag.put ops vals L n a = Dag.all ops vals n a
  | 0, _ => rfl
  | n + 1, h => by
    rw [Dag.put, Dag.all, if_pos (h n (by omega)), Dag.put_all ops vals L a n (fun j hj => h j (by omega))]
theorem Dag.put_none (ops : Array Oper) (vals : Nat → Value) (m : Nat) (a : Act) : ∀ n, Dag.put ops vals (Array.replicate m false) n a = a
  | 0 => rfl
  | n + 1 => by
    rw [Dag.put, if_neg (by simp [Array.getD, Array.getElem_replicate]), Dag.put_none ops vals m a n]
theorem Dag.put_size (ops : Array Oper) (vals : Nat → Value) (L : Array Bool) (a : Act) : ∀ n, (Dag.put ops vals L n a).tmps.size = a.tmps.size
  | 0 => rfl
  | n + 1 => by
    rw [Dag.put]
    split
    · rw [← Dag.put_size ops vals L a n]
      unfold Act.put
      split <;> simp
    · exact Dag.put_size ops vals L a n

/-- What a region must be: no guards, no defers, each slot once and in bounds, each after lower ones alone. -/
structure Dag.Ok (md : Region.Mode) (ops : Array Oper) (m : Nat) : Prop where
  guard : ∀ (i : Nat) (o : Oper), ops[i]? = some o → o.guard = none
  calm : ∀ (i : Nat) (o : Oper) c, ops[i]? = some o → o.op ≠ .defer c
  one : ∀ (i j : Nat) (o o' : Oper) (d : Nat), ops[i]? = some o → ops[j]? = some o' → o.dst = some d → o'.dst = some d → i = j
  room : ∀ (i : Nat) (o : Oper) (d : Nat), ops[i]? = some o → o.dst = some d → d < m
  low : ∀ (i : Nat) (o : Oper), ops[i]? = some o → ∀ e ∈ o.after, Region.binds md e = true → e.on < i

def Dag.fine (md : Region.Mode) (ops : Array Oper) (m : Nat) : Bool :=
  (List.range ops.size).all fun i => match ops[i]? with
    | none => true
    | some o => o.guard.isNone && (match o.op with | .defer _ => false | _ => true) &&
      (match o.dst with | none => true | some d => Nat.blt d m && (List.range ops.size).all fun j => Nat.beq i j || match (ops[j]?).bind (·.dst) with | some d' => !Nat.beq d d' | none => true) &&
      o.after.all fun e => !Region.binds md e || Nat.blt e.on i

theorem Dag.Ok.of {md : Region.Mode} {ops : Array Oper} {m : Nat} (h : Dag.fine md ops m = true) : Dag.Ok md ops m := by
  have H : ∀ (i : Nat) (o : Oper), ops[i]? = some o → o.guard.isNone = true ∧ (match o.op with | .defer _ => false | _ => true) = true ∧
      (match o.dst with | none => true | some d => Nat.blt d m && (List.range ops.size).all fun j => Nat.beq i j || match (ops[j]?).bind (·.dst) with | some d' => !Nat.beq d d' | none => true) = true ∧
      (o.after.all fun e => !Region.binds md e || Nat.blt e.on i) = true := by
    intro i o ho
    unfold Dag.fine at h
    rw [List.all_eq_true] at h
    have := h i (by rw [List.mem_range]; exact (Array.getElem?_eq_some_iff.1 ho).1)
    rw [ho] at this
    simp only [Bool.and_eq_true] at this
    obtain ⟨⟨⟨a, b⟩, c⟩, d⟩ := this
    exact ⟨a, b, c, d⟩
  constructor
  · intro i o ho
    have := (H i o ho).1
    simpa using this
  · intro i o c ho e
    have := (H i o ho).2.1
    rw [e] at this
    cases this
  · intro i j o o' d hi hj h1 h2
    have := (H i o hi).2.2.1
    rw [h1] at this
    simp only [Bool.and_eq_true, List.all_eq_true, List.mem_range] at this
    have := this.2 j (Array.getElem?_eq_some_iff.1 hj).1
    rw [hj] at this
    simp only [Option.bind_some, h2, Bool.or_eq_true, Bool.not_eq_true'] at this
    rcases this with h | h
    · exact Nat.eq_of_beq_eq_true h
    · rw [Nat.beq_refl] at h; cases h
  · intro i o d hi h1
    have := (H i o hi).2.2.1
    rw [h1] at this
    simp only [Bool.and_eq_true] at this
    exact (Nat.blt_eq (x := d) (y := m)).mp this.1
  · intro i o hi e he hb
    have := Array.all_eq_true'.1 (H i o hi).2.2.2 e he
    rw [hb] at this
    simp only [Bool.not_true, Bool.false_or] at this
    exact (Nat.blt_eq (x := e.on) (y := i)).mp this

theorem Dag.put_eval_other {ops : Array Oper} {vals : Nat → Value} {L : Array Bool} {a : Act} {x : Operand} : ∀ n, (∀ (j : Nat) (o : Oper), j < n → ops[j]? = some o → ∀ d, o.dst = some d → x ≠ .tmp d) → (Dag.put ops vals L n a).eval x = a.eval x
  | 0, _ => rfl
  | n + 1, h => by
    rw [Dag.put]
    have ih := Dag.put_eval_other (ops := ops) (vals := vals) (L := L) (a := a) (x := x) n (fun j o hj => h j o (by omega))
    split
    · cases ho : ops[n]? with
      | none => exact ih
      | some o =>
        simp only [Option.bind_some]
        rw [Act.eval_put (fun d hd => h n o (by omega) ho d hd)]
        exact ih
    · exact ih
theorem Dag.put_eval_late {ops : Array Oper} {vals : Nat → Value} {L : Array Bool} {a : Act} {x : Operand} : ∀ n, (∀ (j : Nat) (o : Oper), L.getD j false = true → ops[j]? = some o → ∀ d, o.dst = some d → x ≠ .tmp d) → (Dag.put ops vals L n a).eval x = a.eval x
  | 0, _ => rfl
  | n + 1, h => by
    rw [Dag.put]
    have ih := Dag.put_eval_late (ops := ops) (vals := vals) (L := L) (a := a) (x := x) n h
    split
    · rename_i hL
      cases ho : ops[n]? with
      | none => exact ih
      | some o =>
        simp only [Option.bind_some]
        rw [Act.eval_put (fun d hd => h n o hL ho d hd)]
        exact ih
    · exact ih
theorem Dag.put_eval {md : Region.Mode} {ops : Array Oper} {vals : Nat → Value} {L : Array Bool} {a : Act} (hok : Dag.Ok md ops a.tmps.size) {j d : Nat} {o : Oper} (hj : ops[j]? = some o) (hd : o.dst = some d) (hL : L.getD j false = true) : ∀ n, j < n → (Dag.put ops vals L n a).eval (.tmp d) = vals j
  | 0, h => absurd h (by omega)
  | n + 1, h => by
    rw [Dag.put]
    by_cases e : j = n
    · subst e
      rw [if_pos hL, hj]
      have hlt := hok.room j o d hj hd
      rw [← Dag.put_size ops vals L a j] at hlt
      simp only [Option.bind_some, hd, Act.put, Act.eval, Array.getD_eq_getD_getElem?]
      rw [Array.getElem?_setIfInBounds_self_of_lt hlt]
      rfl
    · have ih := Dag.put_eval (vals := vals) (L := L) hok hj hd hL n (by omega)
      split
      · cases ho : ops[n]? with
        | none => exact ih
        | some o' =>
          simp only [Option.bind_some]
          rw [Act.eval_put (fun d' hd' he => e (by
            have : d = d' := by injection he
            subst this
            exact hok.one j n o o' d hj ho hd hd'))]
          exact ih
      · exact ih
theorem Dag.put_set {md : Region.Mode} {ops : Array Oper} {vals : Nat → Value} {L : Array Bool} {a : Act} (hok : Dag.Ok md ops a.tmps.size) {i : Nat} {o : Oper} (hi : ops[i]? = some o) (hL : L.getD i true = false) :
    ∀ n, Dag.put ops vals (L.setIfInBounds i true) n a = if i < n then (Dag.put ops vals L n a).put o.dst (vals i) else Dag.put ops vals L n a
  | 0 => by simp [Dag.put]
  | n + 1 => by
    have ih := Dag.put_set (vals := vals) (a := a) hok hi hL n
    have hs : i < L.size := by
      rcases Nat.lt_or_ge i L.size with h | h
      · exact h
      · simp [Array.getD, Nat.not_lt.2 h] at hL
    by_cases e : i = n
    · subst e
      have h1 : (L.setIfInBounds i true).getD i false = true := by simp [hs]
      have h2 : ¬ L.getD i false = true := by simp [hs] at hL ⊢; exact hL
      have A : Dag.put ops vals (L.setIfInBounds i true) i a = Dag.put ops vals L i a := by rw [ih, if_neg (by omega)]
      have B : Dag.put ops vals (L.setIfInBounds i true) (i + 1) a = (Dag.put ops vals (L.setIfInBounds i true) i a).put ((ops[i]?).bind (·.dst)) (vals i) := by rw [Dag.put, if_pos h1]
      have C : Dag.put ops vals L (i + 1) a = Dag.put ops vals L i a := by rw [Dag.put, if_neg h2]
      rw [B, A, if_pos (by omega), C, hi]
      rfl
    · have B : Dag.put ops vals (L.setIfInBounds i true) (n + 1) a = if L.getD n false = true then (Dag.put ops vals (L.setIfInBounds i true) n a).put ((ops[n]?).bind (·.dst)) (vals n) else Dag.put ops vals (L.setIfInBounds i true) n a := by rw [Dag.put, getD_set_ne false e]
      have C : Dag.put ops vals L (n + 1) a = if L.getD n false = true then (Dag.put ops vals L n a).put ((ops[n]?).bind (·.dst)) (vals n) else Dag.put ops vals L n a := by rw [Dag.put]
      rw [B, C, ih]
      by_cases hin : i < n
      · rw [if_pos hin, if_pos (by omega : i < n + 1)]
        split
        · cases ho : ops[n]? with
          | none => rfl
          | some o' =>
            simp only [Option.bind_some]
            rw [Act.put_comm]
            intro d hd hd'
            exact e (hok.one i n o o' d hi ho hd hd')
        · rfl
      · rw [if_neg hin, if_neg (by omega : ¬ i < n + 1)]

theorem Dag.filter_less {p q : Nat → Bool} {i : Nat} (hpq : ∀ k, q k = true → p k = true) (hp : p i = true) (hq : q i = false) : ∀ l : List Nat, i ∈ l → (l.filter q).length < (l.filter p).length := by
  have hle : ∀ l : List Nat, (l.filter q).length ≤ (l.filter p).length := by
    intro l
    induction l with
    | nil => simp
    | cons k l ih =>
      rw [List.filter_cons, List.filter_cons]
      cases h1 : q k with
      | true => rw [hpq k h1]; simp; omega
      | false => cases p k <;> simp <;> omega
  intro l
  induction l with
  | nil => intro h; cases h
  | cons k l ih =>
    intro h
    rw [List.filter_cons, List.filter_cons]
    rcases List.mem_cons.1 h with rfl | h
    · rw [hp, hq]; have := hle l; simp; omega
    · have := ih h
      cases h1 : q k with
      | true => rw [hpq k h1]; simp; omega
      | false => cases p k <;> simp <;> omega

theorem Dag.off {L : Array Bool} {k : Nat} (h : L.getD k true = false) : L.getD k false = false := by
  rcases Nat.lt_or_ge k L.size with hk | hk
  · simp [hk] at h ⊢; exact h
  · simp [Array.getD, Nat.not_lt.2 hk] at h
theorem Dag.on {L : Array Bool} {k : Nat} (h : L.getD k true = false) : (L.setIfInBounds k true).getD k false = true := by
  rcases Nat.lt_or_ge k L.size with hk | hk
  · simp [hk]
  · simp [Array.getD, Nat.not_lt.2 hk] at h

structure Dag.At (md : Region.Mode) (ops : Array Oper) (vals : Nat → Value) (base : Act) (L : Array Bool) (ρ : Operand → Value) : Prop where
  const : ∀ v, ρ (.const v) = v
  old : ∀ x, (∀ (j : Nat) (o : Oper), ops[j]? = some o → o.dst ≠ some x) → ρ (.tmp x) = base.eval (.tmp x)
  new : ∀ (j : Nat) (o : Oper) (d : Nat), L.getD j false = true → ops[j]? = some o → o.dst = some d → ρ (.tmp d) = vals j
  closed : ∀ (j : Nat) (o : Oper), L.getD j false = true → ops[j]? = some o → ∀ e ∈ o.after, Region.binds md e = true → L.getD e.on false = true
  late : ∀ x, (∀ (j : Nat) (o : Oper), L.getD j false = true → ops[j]? = some o → o.dst ≠ some x) → ρ (.tmp x) = base.eval (.tmp x)

theorem Dag.unlisted {md : Region.Mode} {ops : Array Oper} {m : Nat} (hok : Dag.Ok md ops m) (L : Array Bool) (hs : L.size = ops.size) (hr : Region.ready md ops L = []) : ∀ j, j < ops.size → L.getD j false = true := by
  intro j
  induction j using Nat.strongRecOn with
  | ind j ih =>
    intro hj
    cases hL : L.getD j false with
    | true => rfl
    | false =>
      have hm : j ∈ Region.ready md ops L := by
        rw [mem_ready]
        refine ⟨?_, ops[j], Array.getElem?_eq_getElem hj, fun e he hb => ?_⟩
        · have hjs : j < L.size := by omega
          simp [hjs] at hL ⊢; exact hL
        · have := hok.low j _ (Array.getElem?_eq_getElem hj) e he hb
          exact ih e.on this (by omega)
      rw [hr] at hm
      cases hm

theorem wpAnyIn_dag {F : Fence} {n : Nat} {P : Program} {md : Region.Mode} {ops : Array Oper} {Q : Exit → Act → World → Prop} (vals : Nat → Value) (base : Act) (R : Array Bool → World → Prop)
    (hok : Dag.Ok md ops base.tmps.size)
    (hstep : ∀ i, i < ops.size → ∀ o : Oper, ops[i]? = some o → ∀ L ρ w, Dag.At md ops vals base L ρ → (∀ e ∈ o.after, Region.binds md e = true → L.getD e.on false = true) → L.getD i true = false → R L w →
      o.about P w ρ = none ∧ ∃ w', R (L.setIfInBounds i true) w' ∧ ((execOp ρ o).run P w = .ok (.value (vals i)) w' ∨ (vals i = undef ∧ (execOp ρ o).run P w = .ok .skip w')))
    (hend : ∀ L w, (∀ j, j < ops.size → L.getD j false = true) → R L w → Q .normal (Dag.all ops vals ops.size base) w) :
    ∀ fuel (L : Array Bool) w, L.size = ops.size → ((List.range ops.size).filter fun i => !L.getD i false).length ≤ fuel → (∀ (j : Nat) (o : Oper), L.getD j false = true → ops[j]? = some o → ∀ e ∈ o.after, Region.binds md e = true → L.getD e.on false = true) → R L w →
      wpAnyIn F n P md ops Q fuel L (Dag.put ops vals L ops.size base) w := by
  intro fuel
  induction fuel with
  | zero =>
    intro L w hs hf _ hR
    have hall : ∀ j, j < ops.size → L.getD j false = true := by
      intro j hj
      have h0 : ((List.range ops.size).filter fun i => !L.getD i false) = [] := List.eq_nil_of_length_eq_zero (by omega)
      have := (List.filter_eq_nil_iff.1 h0) j (by rw [List.mem_range]; exact hj)
      simpa using this
    refine ⟨?_, ?_⟩
    · rw [List.eq_nil_iff_forall_not_mem]
      intro j hj
      obtain ⟨h1, o, ho, _⟩ := mem_ready.1 hj
      have hlt := (Array.getElem?_eq_some_iff.1 ho).1
      have h2 := hall j hlt
      have hjs : j < L.size := by omega
      simp [hjs] at h1 h2
      rw [h2] at h1; cases h1
    · rw [Dag.put_all ops vals L base _ hall]
      exact hend L w hall hR
  | succ fuel ih =>
    intro L w hs hf hcl hR
    refine ⟨fun hr => ?_, fun i hi => ?_⟩
    · have hall := Dag.unlisted hok L hs hr
      rw [Dag.put_all ops vals L base _ hall]
      exact hend L w hall hR
    · obtain ⟨h1, o, ho, hafter⟩ := mem_ready.1 hi
      have hlt := (Array.getElem?_eq_some_iff.1 ho).1
      have hat : Dag.At md ops vals base L (Dag.put ops vals L ops.size base).eval := ⟨fun v => rfl, fun x hx => Dag.put_eval_other _ (fun j o' _ ho' d hd e => hx j o' ho' (by injection e with e; rw [e]; exact hd)),
        fun j o' d hj ho' hd => Dag.put_eval hok ho' hd hj _ (Array.getElem?_eq_some_iff.1 ho').1, hcl, fun x hx => Dag.put_eval_late _ (fun j o' hj ho' d hd e => hx j o' hj ho' (by injection e with e; rw [e]; exact hd))⟩
      obtain ⟨hab, w', hR', hrun⟩ := hstep i hlt o ho L _ w hat hafter h1 hR
      have hnext := ih (L.setIfInBounds i true) w' (by simp [hs]) (by
          have hjs : i < L.size := by omega
          have hLi : L.getD i false = false := by simp [hjs] at h1 ⊢; exact h1
          have hlen : ((List.range ops.size).filter fun k => !(L.setIfInBounds i true).getD k false).length < ((List.range ops.size).filter fun k => !L.getD k false).length := by
            refine Dag.filter_less (i := i) (fun k hk => ?_) (by rw [hLi]; rfl) (by simp [hjs]) _ (by rw [List.mem_range]; exact hlt)
            by_cases e : i = k
            · subst e; simp [hjs] at hk
            · rw [getD_set_ne false e] at hk; exact hk
          omega) (by
          intro j o' hj ho' e he hb
          by_cases ej : i = j
          · subst ej
            rw [ho] at ho'; cases ho'
            exact getD_set_true (hafter e he hb)
          · rw [getD_set_ne false ej] at hj
            exact getD_set_true (hcl j o' hj ho' e he hb)) hR'
      rw [Dag.put_set hok ho h1, if_pos hlt] at hnext
      unfold wpOpIn
      simp only [ho]
      have hw : Region.wanted o (yielded ops (Dag.put ops vals L ops.size base).tmps) = true := by simp [Region.wanted, hok.guard i o ho]
      rw [if_pos hw]
      unfold Oper.wpIn
      refine ⟨fun f hf => (by rw [hab] at hf; cases hf), ?_⟩
      rw [Oper.semAt_plain F _ _ (fun c => hok.calm i o c ho)]
      rcases hrun with h | ⟨hv, h⟩
      · rw [h]; exact hnext
      · rw [h]; rw [hv] at hnext; exact hnext

/-- The region's law. -/
theorem wpIn_region_dag {F : Fence} {n : Nat} {P : Program} {ops : Array Oper} {Q : Exit → Act → World → Prop} {id : Nat} {a : Act} {w : World} (hm : P.follows .mixedOrders = true) (vals : Nat → Value) (R : Array Bool → World → Prop)
    (hok : Dag.fine .any ops a.tmps.size = true)
    (h0 : R (Array.replicate ops.size false) w.drew)
    (hstep : ∀ i, i < ops.size → ∀ o : Oper, ops[i]? = some o → ∀ L ρ w, Dag.At .any ops vals a L ρ → (∀ e ∈ o.after, Region.binds .any e = true → L.getD e.on false = true) → L.getD i true = false → R L w →
      o.about P w ρ = none ∧ ∃ w', R (L.setIfInBounds i true) w' ∧ ((execOp ρ o).run P w = .ok (.value (vals i)) w' ∨ (vals i = undef ∧ (execOp ρ o).run P w = .ok .skip w')))
    (hend : ∀ L w, (∀ j, j < ops.size → L.getD j false = true) → R L w → Q .normal (Dag.all ops vals ops.size a) w) :
    (Code.region id ops true).wpIn F n P Q a w := by
  refine wpIn_region_any hm ?_
  have h := wpAnyIn_dag (F := F) (n := n) (P := P) (Q := Q) vals a R (Dag.Ok.of hok) hstep hend ops.size (Array.replicate ops.size false) w.drew (by simp) (by
    refine Nat.le_trans (List.length_filter_le _ _) ?_; simp) (by
    intro j o hj ho
    have hlt := (Array.getElem?_eq_some_iff.1 ho).1
    simp [hlt] at hj) h0
  rw [Dag.put_none] at h
  exact h
theorem run_op_load_row {P : Program} {ρ : Operand → Value} {o : Oper} {w : World} (ty : TypeId) (x : Operand) (ho : o.op = .load ty x) (g : Nat) (hx : ρ x = .pointer (some ⟨g, 0, none⟩)) (t : TypeId) (cs : Array Value) (fr : Nat × Nat) (d : TypeDesc) (hg : w.heap[g]? = some (.cells cs t fr))
    (hu : P.underlying ty = some d) (hd : (match d with | .struct _ | .array _ _ => true | _ => false) = true) (hi : (P.info? ty).map (·.size) = some cs.size) : (execOp ρ o).run P w = .ok (.value (.agg cs)) w := by
  unfold execOp
  simp only [ho, hx, Instr.loadAt, Instr.sureAddr, Sem.run_bind, Sem.run_pure, Result.andThen_ok, run_loadVar_row w g t ty cs fr d hg hu hd hi]
theorem run_op_store_row {P : Program} {ρ : Operand → Value} {o : Oper} {w : World} (ty : TypeId) (x y : Operand) (ho : o.op = .store ty x y) (g : Nat) (cells : Array Value) (hx : ρ x = .pointer (some ⟨g, 0, none⟩)) (hy : ρ y = .agg cells)
    (t : TypeId) (old : Array Value) (hg : w.heap[g]? = some (.cells old t (0, 0))) (hi : (P.info? ty).map (·.size) = some cells.size) (hold : old.size = cells.size) (h1 : cells.all (·.oneCell') = true) : (execOp ρ o).run P w = .ok .skip (w.setRow g cells) := by
  unfold execOp
  simp only [ho, hx, hy, Instr.storeAt, Instr.sureAddr, Sem.run_bind, Sem.run_pure, Result.andThen_ok, run_storeVar_row w g t ty old cells hg hi hold h1]
end
section
open Go

def Dag.turn (vals : Nat → Value) (i : Nat) (v : Value) : Nat → Value := fun j => if j = i then v else vals j
theorem Dag.turn_same (vals : Nat → Value) (i : Nat) (v : Value) : Dag.turn vals i v i = v := by simp [Dag.turn]
theorem Dag.turn_other (vals : Nat → Value) {i j : Nat} (v : Value) (h : j ≠ i) : Dag.turn vals i v j = vals j := by simp [Dag.turn, h]
theorem Dag.put_turn {ops : Array Oper} {vals : Nat → Value} {L : Array Bool} {a : Act} {i : Nat} {v : Value} (hL : L.getD i false = false) : ∀ n, Dag.put ops (Dag.turn vals i v) L n a = Dag.put ops vals L n a
  | 0 => rfl
  | n + 1 => by
    rw [Dag.put, Dag.put, Dag.put_turn hL n]
    by_cases e : n = i
    · subst e
      rw [if_neg (by rw [hL]; simp), if_neg (by rw [hL]; simp)]
    · rw [Dag.turn_other _ _ e]

theorem wpAny_dagv {P : Program} {md : Region.Mode} {ops : Array Oper} {Q : Exit → Act → World → Prop} (base : Act) (R : Array Bool → (Nat → Value) → World → Prop)
    (hok : Dag.Ok md ops base.tmps.size)
    (hstep : ∀ i, i < ops.size → ∀ o : Oper, ops[i]? = some o → ∀ L vals b w, Dag.At md ops vals base L b.eval → (∀ e ∈ o.after, Region.binds md e = true → L.getD e.on false = true) → L.getD i true = false → R L vals w →
      o.wp P b w (fun b' w' => ∃ v, b' = b.put o.dst v ∧ R (L.setIfInBounds i true) (Dag.turn vals i v) w') Q)
    (hend : ∀ L vals w, (∀ j, j < ops.size → L.getD j false = true) → R L vals w → Q .normal (Dag.all ops vals ops.size base) w) :
    ∀ fuel (L : Array Bool) (vals : Nat → Value) w, L.size = ops.size → ((List.range ops.size).filter fun i => !L.getD i false).length ≤ fuel → (∀ (j : Nat) (o : Oper), L.getD j false = true → ops[j]? = some o → ∀ e ∈ o.after, Region.binds md e = true → L.getD e.on false = true) → R L vals w →
      wpAny P md ops Q fuel L (Dag.put ops vals L ops.size base) w := by
  intro fuel
  induction fuel with
  | zero =>
    intro L vals w hs hf _ hR
    have hall : ∀ j, j < ops.size → L.getD j false = true := by
      intro j hj
      have h0 : ((List.range ops.size).filter fun i => !L.getD i false) = [] := List.eq_nil_of_length_eq_zero (by omega)
      have := (List.filter_eq_nil_iff.1 h0) j (by rw [List.mem_range]; exact hj)
      simpa using this
    refine ⟨?_, ?_⟩
    · rw [List.eq_nil_iff_forall_not_mem]
      intro j hj
      obtain ⟨h1, o, ho, _⟩ := mem_ready.1 hj
      have hlt := (Array.getElem?_eq_some_iff.1 ho).1
      have h2 := hall j hlt
      have hjs : j < L.size := by omega
      simp [hjs] at h1 h2
      rw [h2] at h1; cases h1
    · rw [Dag.put_all ops vals L base _ hall]
      exact hend L vals w hall hR
  | succ fuel ih =>
    intro L vals w hs hf hcl hR
    refine ⟨fun hr => ?_, fun i hi => ?_⟩
    · have hall := Dag.unlisted hok L hs hr
      rw [Dag.put_all ops vals L base _ hall]
      exact hend L vals w hall hR
    · obtain ⟨h1, o, ho, hafter⟩ := mem_ready.1 hi
      have hlt := (Array.getElem?_eq_some_iff.1 ho).1
      have hjs : i < L.size := by omega
      have hLi : L.getD i false = false := by simp [hjs] at h1 ⊢; exact h1
      have hat : Dag.At md ops vals base L (Dag.put ops vals L ops.size base).eval := ⟨fun v => rfl, fun x hx => Dag.put_eval_other _ (fun j o' _ ho' d hd e => hx j o' ho' (by injection e with e; rw [e]; exact hd)),
        fun j o' d hj ho' hd => Dag.put_eval hok ho' hd hj _ (Array.getElem?_eq_some_iff.1 ho').1, hcl, fun x hx => Dag.put_eval_late _ (fun j o' hj ho' d hd e => hx j o' hj ho' (by injection e with e; rw [e]; exact hd))⟩
      have hw := hstep i hlt o ho L vals _ w hat hafter h1 hR
      unfold wpOp
      simp only [ho]
      have hwt : Region.wanted o (yielded ops (Dag.put ops vals L ops.size base).tmps) = true := by simp [Region.wanted, hok.guard i o ho]
      rw [if_pos hwt]
      refine Or.inl (Oper.wp_mono ?_ hw)
      rintro b' w' ⟨v, rfl, hR'⟩
      have hnext := ih (L.setIfInBounds i true) (Dag.turn vals i v) w' (by simp [hs]) (by
          have hlen : ((List.range ops.size).filter fun k => !(L.setIfInBounds i true).getD k false).length < ((List.range ops.size).filter fun k => !L.getD k false).length := by
            refine Dag.filter_less (i := i) (fun k hk => ?_) (by rw [hLi]; rfl) (by simp [hjs]) _ (by rw [List.mem_range]; exact hlt)
            by_cases e : i = k
            · subst e; simp [hjs] at hk
            · rw [getD_set_ne false e] at hk; exact hk
          omega) (by
          intro j o' hj ho' e he hb
          by_cases ej : i = j
          · subst ej
            rw [ho] at ho'; cases ho'
            exact getD_set_true (hafter e he hb)
          · rw [getD_set_ne false ej] at hj
            exact getD_set_true (hcl j o' hj ho' e he hb)) hR'
      rw [Dag.put_set hok ho h1, if_pos hlt, Dag.put_turn hLi, Dag.turn_same] at hnext
      exact hnext

/-- The region's law. -/
theorem wp_region_dagv {P : Program} {ops : Array Oper} {Q : Exit → Act → World → Prop} {id : Nat} {a : Act} {w : World} (hm : P.follows .mixedOrders = true) (R : Array Bool → (Nat → Value) → World → Prop)
    (hok : Dag.fine .any ops a.tmps.size = true)
    (h0 : R (Array.replicate ops.size false) (fun _ => undef) w.drew)
    (hstep : ∀ i, i < ops.size → ∀ o : Oper, ops[i]? = some o → ∀ L vals b w, Dag.At .any ops vals a L b.eval → (∀ e ∈ o.after, Region.binds .any e = true → L.getD e.on false = true) → L.getD i true = false → R L vals w →
      o.wp P b w (fun b' w' => ∃ v, b' = b.put o.dst v ∧ R (L.setIfInBounds i true) (Dag.turn vals i v) w') Q)
    (hend : ∀ L vals w, (∀ j, j < ops.size → L.getD j false = true) → R L vals w → Q .normal (Dag.all ops vals ops.size a) w) :
    (Code.region id ops true).wp P Q a w := by
  refine wp_region_any hm ?_
  have h := wpAny_dagv (P := P) (Q := Q) a R (Dag.Ok.of hok) hstep hend ops.size (Array.replicate ops.size false) (fun _ => undef) w.drew (by simp) (by
    refine Nat.le_trans (List.length_filter_le _ _) ?_; simp) (by
    intro j o hj ho
    have hlt := (Array.getElem?_eq_some_iff.1 ho).1
    simp [hlt] at hj) h0
  rw [Dag.put_none] at h
  exact h
/-- An operation that yields. -/
theorem Dag.yields {P : Program} {o : Oper} {b : Act} {w w' : World} {K : Act → World → Prop} {Q : Exit → Act → World → Prop} (v : Value) (h : (execOp b.eval o).run P w = .ok (.value v) w') (hk : K (b.put o.dst v) w') : o.wp P b w K Q := by
  unfold Oper.wp
  rw [h]
  exact hk
/-- An operation that yields nothing. -/
theorem Dag.skips {P : Program} {o : Oper} {b : Act} {w w' : World} {K : Act → World → Prop} {Q : Exit → Act → World → Prop} (h : (execOp b.eval o).run P w = .ok .skip w') (hk : K (b.put o.dst undef) w') : o.wp P b w K Q := by
  unfold Oper.wp
  rw [h]
  exact hk
/-- A call that returns. -/
theorem Dag.calls {P : Program} {o : Oper} {b : Act} {w w' : World} {K : Act → World → Prop} {Q : Exit → Act → World → Prop} {f : FuncId} {args : Array Value} (h : (execOp b.eval o).run P w = .ok (.enter f args) w') (R : Value → World → Prop) (hc : Calls P f args w' fun e w'' => ∃ v, e = .returned v ∧ R v w'') (hk : ∀ v w'', R v w'' → K (b.put o.dst v) w'') : o.wp P b w K Q := by
  unfold Oper.wp
  rw [h, Oper.upon_enter]
  refine hc.mono ?_
  rintro e w'' ⟨v, rfl, hR⟩
  exact hk v w'' hR
end
section
open Go.RowKit Go.Lib

/-- va is the row with news behind it, in world w1. -/
def PutR.Got (w0 : World) (row : Value) (base e size n : Nat) (xs news : List Value) (va : Value) (w1 : World) : Prop :=
  ∃ g cap, va = .slice (some ⟨g, 0, none⟩) (n + 1) cap ∧ w1.ownsRow base e size va (n + 1) (xs ++ news) ∧ (row.ownBlock = some g ∨ w0.heap.size ≤ g) ∧ w0.grownBy w1 row.ownBlock
/-- bs: is x laid? ap: appended? st: stored? -/
structure PutR (w0 : World) (row : Value) (base e size n : Nat) (xs : List Value) (p : Addr) (news : List Value) (bs ap st : Bool) (vb va : Value) (wx : World) : Prop where
  g : st = false → w0.grownBy wx row.ownBlock
  a : ap = false → st = false → Below w0.heap.size w0 wx
  z : bs = false → ap = false → st = false → wx.heap.size = w0.heap.size
  b : bs = true → vb = .slice (some ⟨w0.heap.size, 0, none⟩) 1 1
  k : bs = true → ap = false → st = false → Blk wx w0.heap.size e news
  c : ap = true → st = false → PutR.Got w0 row base e size n xs news va wx
  d : st = true → ∃ w1, wx = w1.setCell p va ∧ PutR.Got w0 row base e size n xs news va w1
section
variable {w0 wx : World} {row : Value} {base e size n : Nat} {xs news : List Value} {p : Addr} {vb va : Value}
theorem PutR.start : PutR w0 row base e size n xs p news false false false vb va w0.drew :=
  ⟨fun _ => ⟨rfl, rfl, rfl, Nat.le_refl _, fun _ _ _ => rfl⟩, fun _ _ => (Below.refl _ _).drew, fun _ _ _ => rfl, (fun h => by cases h), (fun h => by cases h), (fun h => by cases h), (fun h => by cases h)⟩
theorem PutR.lay (h : PutR w0 row base e size n xs p news false false false vb va wx) : PutR w0 row base e size n xs p news true false false (.slice (some ⟨wx.heap.size, 0, none⟩) 1 1) va (wx.alloc (.cells news.toArray e)) := by
  have hz := h.z rfl rfl rfl
  have hb : Below w0.heap.size w0 (wx.alloc (.cells news.toArray e)) := (h.a rfl rfl).alloc (by omega) _
  exact ⟨fun _ => ⟨hb.os, hb.tape, hb.output, hb.size, fun k hk _ => hb.block k hk⟩, fun _ _ => hb, (fun h => by cases h), fun _ => by rw [hz], fun _ _ _ => Blk.new' hz _ _, (fun h => by cases h), (fun h => by cases h)⟩
theorem PutR.app (h : PutR w0 row base e size n xs p news true false false vb va wx) {w' : World} {g cap : Nat} (ho : w'.ownsRow base e size (.slice (some ⟨g, 0, none⟩) (n + 1) cap) (n + 1) (xs ++ news)) (hg : wx.grownBy w' row.ownBlock) (hat : row.ownBlock = some g ∨ g = wx.heap.size) :
    PutR w0 row base e size n xs p news true true false vb (.slice (some ⟨g, 0, none⟩) (n + 1) cap) w' := by
  have h1 := h.g rfl
  have hG : w0.grownBy w' row.ownBlock := ⟨hg.os.trans h1.os, hg.tape.trans h1.tape, hg.output.trans h1.output, Nat.le_trans h1.size hg.size, fun k hk hne => (hg.block k (Nat.lt_of_lt_of_le hk h1.size) hne).trans (h1.block k hk hne)⟩
  exact ⟨fun _ => hG, (fun h => by cases h), (fun h => by cases h), h.b, (fun _ h => by cases h), fun _ _ => ⟨g, cap, rfl, ho, hat.imp id (fun e => by rw [e]; exact h1.size), hG⟩, (fun h => by cases h)⟩
theorem PutR.put (h : PutR w0 row base e size n xs p news true true false vb va wx) : PutR w0 row base e size n xs p news true true true vb va (wx.setCell p va) :=
  ⟨(fun h => by cases h), (fun h => by cases h), (fun h => by cases h), h.b, (fun _ h => by cases h), (fun _ h => by cases h), fun _ => ⟨wx, rfl, h.c rfl rfl⟩⟩
end
end
end Go.Proofs.YtpeaefeoogcepaaDoor
