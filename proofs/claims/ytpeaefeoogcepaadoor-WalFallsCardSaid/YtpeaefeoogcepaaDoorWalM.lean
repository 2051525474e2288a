/- A log of records, in plain Lean: what is written, what is read, what is told behind a fall. -/
import Derived.Test.YtpeaefeoogcepaaDoorCodeM
import Derived.Test.YtpeaefeoogcepaaDoorFoldM
namespace Go.Proofs.YtpeaefeoogcepaaDoor
section
namespace WalM
/-- A sector's head. -/
def head (m : UInt8) (e q : Int) : List UInt8 := m :: (CodeM.putNat (CodeM.zig e) ++ CodeM.putNat (CodeM.zig q))
/-- A text with its sum. -/
def fold (l : List UInt8) : List UInt8 := l ++ FoldSum.tail l
/-- The sectors of what is left of a record. -/
def cuts (e q : Int) : Nat → UInt8 → List UInt8 → List (List UInt8)
  | 0, _, _ => []
  | f + 1, m, all => if all = [] then [] else (head m e q ++ all.take (64 - (head m e q).length)) :: cuts e q f 2 (all.drop (64 - (head m e q).length))
def body (t : List UInt8) : List UInt8 := fold (CodeM.putText t)
def sectors (e q : Int) (t : List UInt8) : List (List UInt8) := cuts e q (body t).length 1 (body t)
def pad (s : List UInt8) : List UInt8 := s ++ List.replicate (64 - s.length) 0
/-- The epoch of a sector that begins record q, and what is behind its head. -/
def headed (s : List UInt8) (q : Int) : Option (Int × List UInt8) :=
  match s with
  | [] => none
  | m :: r =>
    if m ≠ 1 then none
    else if (CodeM.getNat r).2.2 ≠ 0 then none
    else if (CodeM.getNat (r.drop (CodeM.getNat r).2.1)).2.2 = 0 ∧ CodeM.zag (CodeM.getNat (r.drop (CodeM.getNat r).2.1)).1 = q then
      some (CodeM.zag (CodeM.getNat r).1, (r.drop (CodeM.getNat r).2.1).drop (CodeM.getNat (r.drop (CodeM.getNat r).2.1)).2.1)
    else none
/-- More sectors, till there is enough. -/
def gather (rd : Nat → List UInt8) (size : Nat) (h : List UInt8) (need : Nat) : Nat → Nat → List UInt8 → Option (List UInt8 × Nat)
  | 0, p, all => if need ≤ all.length then some (all, p) else none
  | f + 1, p, all => if need ≤ all.length then some (all, p) else if size ≤ p then none else if h.isPrefixOf (rd p) then gather rd size h need f (p + 1) (all ++ (rd p).drop h.length) else none
/-- Record q at a place. -/
def readRec (rd : Nat → List UInt8) (size p : Nat) (q : Int) : Option (Int × List UInt8 × Nat) :=
  if size ≤ p then none
  else match headed (rd p) q with
    | none => none
    | some (e, all) =>
      if (CodeM.getNat all).2.2 ≠ 0 ∨ 300 < (CodeM.getNat all).1 then none
      else match gather rd size (head 2 e q) ((CodeM.getNat all).2.1 + (CodeM.getNat all).1 + 4) (size - p) (p + 1) all with
        | none => none
        | some (l, p') =>
          if fold (l.take ((CodeM.getNat all).2.1 + (CodeM.getNat all).1)) = l.take ((CodeM.getNat all).2.1 + (CodeM.getNat all).1 + 4) then
            some (e, (l.take ((CodeM.getNat all).2.1 + (CodeM.getNat all).1)).drop (CodeM.getNat all).2.1, p' - p)
          else none
/-- The records from a place on: their texts, the place behind them, how many there are. -/
def parse (rd : Nat → List UInt8) (size : Nat) (top : Int) : Nat → Nat → Nat → Int → List (List UInt8) × Nat × Nat
  | 0, p, q, _ => ([], p, q)
  | f + 1, p, q, last =>
    match readRec rd size p q with
    | none => ([], p, q)
    | some (e, t, n) => if e < last ∨ top < e then ([], p, q) else ((t :: (parse rd size top f (p + n) (q + 1) e).1), (parse rd size top f (p + n) (q + 1) e).2)

/-- Numbers that an int may be. -/
def I64 (n : Int) : Prop := -9223372036854775808 ≤ n ∧ n ≤ 9223372036854775807
theorem getInt_put {n : Int} (h : I64 n) (r : List UInt8) : CodeM.getNat (CodeM.putNat (CodeM.zig n) ++ r) = (CodeM.zig n, (CodeM.putNat (CodeM.zig n)).length, 0) := CodeM.get_put _ _ (CodeM.zig_lt n h.1 h.2)
theorem head_len (m : UInt8) (e q : Int) : 3 ≤ (head m e q).length ∧ (head m e q).length ≤ 21 := by
  have h1 := CodeM.put_len (CodeM.zig e)
  have h2 := CodeM.put_len (CodeM.zig q)
  unfold head
  rw [List.length_cons, List.length_append]
  omega
theorem fold_len (l : List UInt8) : (fold l).length = l.length + 4 := by unfold fold; rw [List.length_append]; rfl
theorem headed_first {e q : Int} (he : I64 e) (hq : I64 q) (r : List UInt8) : headed (head 1 e q ++ r) q = some (e, r) := by
  unfold head headed
  rw [List.cons_append]
  dsimp only
  rw [List.append_assoc, getInt_put he]
  dsimp only
  rw [List.drop_left, getInt_put hq]
  simp only [CodeM.zag_zig, List.drop_left]
  simp
theorem headed_is {e q : Int} {m : UInt8} (he : I64 e) (hq : I64 q) {r a : List UInt8} {e' q' : Int} (h : headed (head m e q ++ r) q' = some (e', a)) : m = 1 ∧ e' = e ∧ q' = q := by
  unfold head headed at h
  rw [List.cons_append] at h
  dsimp only at h
  split at h
  · cases h
  · rename_i hm
    rw [List.append_assoc, getInt_put he] at h
    dsimp only at h
    rw [List.drop_left, getInt_put hq] at h
    simp only [CodeM.zag_zig] at h
    split at h
    · cases h
    · split at h
      · rename_i h3
        simp only [Option.some.injEq, Prod.mk.injEq] at h
        exact ⟨Classical.not_not.1 hm, h.1.symm, h3.2.symm⟩
      · cases h
theorem head_is {e q e' q' : Int} {m m' : UInt8} (he : I64 e) (hq : I64 q) (he' : I64 e') (hq' : I64 q') {r : List UInt8} (h : head m' e' q' <+: head m e q ++ r) : m' = m ∧ e' = e ∧ q' = q := by
  obtain ⟨t, ht⟩ := h
  unfold head at ht
  simp only [List.cons_append, List.append_assoc, List.cons.injEq] at ht
  obtain ⟨hm, h1⟩ := ht
  have a1 := getInt_put he' (CodeM.putNat (CodeM.zig q') ++ t)
  rw [h1, getInt_put he] at a1
  have e1 : CodeM.zig e = CodeM.zig e' := (Prod.mk.inj a1).1
  have e2 : e = e' := by have := CodeM.zag_zig e; rw [e1, CodeM.zag_zig] at this; exact this.symm
  subst e2
  rw [List.append_cancel_left_eq] at h1
  have a2 := getInt_put hq' t
  rw [h1, getInt_put hq] at a2
  have e3 : CodeM.zig q = CodeM.zig q' := (Prod.mk.inj a2).1
  have e4 : q = q' := by have := CodeM.zag_zig q; rw [e3, CodeM.zag_zig] at this; exact this.symm
  exact ⟨hm, rfl, e4.symm⟩
end WalM
end
section
namespace WalM
theorem gather_enough {rd : Nat → List UInt8} {size need : Nat} {h acc : List UInt8} (hn : need ≤ acc.length) (g p : Nat) : gather rd size h need g p acc = some (acc, p) := by
  cases g <;> simp [gather, hn]
theorem pad_len {s : List UInt8} (h : s.length ≤ 64) : (pad s).length = 64 := by unfold pad; rw [List.length_append, List.length_replicate]; omega
theorem gather_cuts {rd : Nat → List UInt8} {size need : Nat} (e q : Int) : ∀ (f : Nat) (rest : List UInt8) (p : Nat) (acc : List UInt8), rest.length ≤ f → acc.length + rest.length = need →
    (∀ j (h : j < (cuts e q f 2 rest).length), rd (p + j) = pad (cuts e q f 2 rest)[j]) → p + (cuts e q f 2 rest).length ≤ size → ∀ g, (cuts e q f 2 rest).length ≤ g →
    ∃ z, gather rd size (head 2 e q) need g p acc = some (acc ++ rest ++ z, p + (cuts e q f 2 rest).length)
  | 0, rest, p, acc, h1, h2, _, _, g, _ => by
    have : rest = [] := List.eq_nil_of_length_eq_zero (by omega)
    subst this
    exact ⟨[], by rw [gather_enough (by simp at h2; omega)]; simp [cuts]⟩
  | f + 1, rest, p, acc, h1, h2, h3, h4, g, h5 => by
    by_cases hr : rest = []
    · subst hr
      exact ⟨[], by rw [gather_enough (by simp at h2; omega)]; simp [cuts]⟩
    · have hl := head_len 2 e q
      have hr0 : 0 < rest.length := List.length_pos_iff.2 hr
      have ec : cuts e q (f + 1) 2 rest = (head 2 e q ++ rest.take (64 - (head 2 e q).length)) :: cuts e q f 2 (rest.drop (64 - (head 2 e q).length)) := by rw [cuts, if_neg hr]
      rw [ec] at h3 h4 h5 ⊢
      rw [List.length_cons] at h4 h5 ⊢
      have e0 := h3 0 (by simp)
      simp only [Nat.add_zero, List.getElem_cons_zero] at e0
      generalize hH : head 2 e q = H at *
      obtain ⟨g, rfl⟩ : ∃ g', g = g' + 1 := ⟨g - 1, by omega⟩
      rw [gather, if_neg (by omega), if_neg (by omega), e0]
      have hp : H.isPrefixOf (pad (H ++ rest.take (64 - H.length))) = true := by
        rw [List.isPrefixOf_iff_prefix]
        unfold pad
        rw [List.append_assoc]
        exact List.prefix_append _ _
      rw [if_pos hp]
      have hd : (pad (H ++ rest.take (64 - H.length))).drop H.length = rest.take (64 - H.length) ++ List.replicate (64 - (H ++ rest.take (64 - H.length)).length) 0 := by
        unfold pad
        rw [List.append_assoc, List.drop_left]
      rw [hd]
      by_cases hc : rest.length ≤ 64 - H.length
      · have e1 : rest.take (64 - H.length) = rest := List.take_of_length_le hc
        have e2 : rest.drop (64 - H.length) = [] := List.drop_of_length_le hc
        have e3 : cuts e q f 2 [] = [] := by cases f <;> simp [cuts]
        rw [e1, e2, e3]
        exact ⟨_, by rw [gather_enough (by simp only [List.length_append]; omega), List.append_assoc]; rfl⟩
      · have e1 : List.replicate (64 - (H ++ rest.take (64 - H.length)).length) (0 : UInt8) = [] := by
          rw [List.length_append, List.length_take, show 64 - (H.length + min (64 - H.length) rest.length) = 0 by omega, List.replicate_zero]
        rw [e1, List.append_nil]
        obtain ⟨z, hz⟩ := gather_cuts (rd := rd) (size := size) (need := need) e q f (rest.drop (64 - H.length)) (p + 1) (acc ++ rest.take (64 - H.length)) (by rw [List.length_drop]; omega) (by rw [List.length_append, List.length_take, List.length_drop]; omega)
          (fun j h => by
            have := h3 (j + 1) (by simpa using h)
            rw [show p + 1 + j = p + (j + 1) by omega, this]
            simp) (by omega) g (by omega)
        rw [hH] at hz
        refine ⟨z, ?_⟩
        rw [hz, List.append_assoc acc, List.take_append_drop, show p + 1 + (cuts e q f 2 (rest.drop (64 - H.length))).length = p + ((cuts e q f 2 (rest.drop (64 - H.length))).length + 1) by omega]
theorem cuts_len_le (e q : Int) : ∀ (f : Nat) (m : UInt8) (l : List UInt8), (cuts e q f m l).length ≤ l.length
  | 0, _, _ => Nat.zero_le _
  | f + 1, m, l => by
    rw [cuts]
    split
    · exact Nat.zero_le _
    · rename_i h
      have := cuts_len_le e q f 2 (l.drop (64 - (head m e q).length))
      have hl := head_len m e q
      have h0 : 0 < l.length := List.length_pos_iff.2 h
      rw [List.length_cons]
      rw [List.length_drop] at this
      omega
theorem body_len (t : List UInt8) : (body t).length = (CodeM.putNat t.length).length + t.length + 4 := by
  unfold body CodeM.putText
  rw [fold_len, List.length_append]
theorem sectors_cons (e q : Int) (t : List UInt8) : ∃ f, (body t).length = f + 1 ∧ sectors e q t = (head 1 e q ++ (body t).take (64 - (head 1 e q).length)) :: cuts e q f 2 ((body t).drop (64 - (head 1 e q).length)) := by
  have hb := body_len t
  refine ⟨(body t).length - 1, by omega, ?_⟩
  unfold sectors
  obtain ⟨f, hf⟩ : ∃ f, (body t).length = f + 1 := ⟨(body t).length - 1, by omega⟩
  rw [hf, cuts, if_neg (by intro h; rw [h] at hf; simp at hf)]
  rfl
/-- What was written is read. -/
theorem read_ok {rd : Nat → List UInt8} {size p : Nat} {e q : Int} {t : List UInt8} (he : I64 e) (hq : I64 q) (ht : t.length ≤ 300) (hrd : ∀ j (h : j < (sectors e q t).length), rd (p + j) = pad (sectors e q t)[j])
    (hsz : p + (sectors e q t).length ≤ size) : readRec rd size p q = some (e, t, (sectors e q t).length) := by
  obtain ⟨f, hf, hs⟩ := sectors_cons e q t
  have hb := body_len t
  have hl := head_len 1 e q
  have hk := CodeM.put_len t.length
  rw [hs] at hrd hsz ⊢
  rw [List.length_cons] at hsz ⊢
  have e0 := hrd 0 (by simp)
  simp only [Nat.add_zero, List.getElem_cons_zero] at e0
  have e1 : headed (rd p) q = some (e, (body t).take (64 - (head 1 e q).length) ++ List.replicate (64 - (head 1 e q ++ (body t).take (64 - (head 1 e q).length)).length) 0) := by
    rw [e0]
    unfold pad
    rw [List.append_assoc]
    exact headed_first he hq _
  have hB : body t = CodeM.putNat t.length ++ (t ++ FoldSum.tail (CodeM.putText t)) := by
    unfold body fold
    conv => lhs; arg 1; unfold CodeM.putText
    rw [List.append_assoc]
  generalize hZ : List.replicate (64 - (head 1 e q ++ (body t).take (64 - (head 1 e q).length)).length) (0 : UInt8) = Z at e1
  generalize hH : (head 1 e q).length = c at *
  have e2 : CodeM.getNat ((body t).take (64 - c) ++ Z) = (t.length, (CodeM.putNat t.length).length, 0) := by
    rw [hB, List.take_append, List.take_of_length_le (by omega), List.append_assoc]
    exact CodeM.get_put _ _ (by omega)
  unfold readRec
  rw [if_neg (by omega), e1]
  dsimp only
  rw [e2]
  dsimp only
  rw [if_neg (by omega)]
  have hg : ∃ z, gather rd size (head 2 e q) ((CodeM.putNat t.length).length + t.length + 4) (size - p) (p + 1) ((body t).take (64 - c) ++ Z) = some (body t ++ z, p + ((cuts e q f 2 ((body t).drop (64 - c))).length + 1)) := by
    by_cases hc : (body t).length ≤ 64 - c
    · have f1 : (body t).take (64 - c) = body t := List.take_of_length_le hc
      have f2 : (body t).drop (64 - c) = [] := List.drop_of_length_le hc
      have f3 : cuts e q f 2 [] = [] := by cases f <;> simp [cuts]
      rw [f1, f2, f3]
      exact ⟨Z, by rw [gather_enough (by simp only [List.length_append]; omega)]; rfl⟩
    · have f1 : Z = [] := by
        rw [← hZ, List.length_append, hH, List.length_take, show 64 - (c + min (64 - c) (body t).length) = 0 by omega, List.replicate_zero]
      rw [f1, List.append_nil]
      obtain ⟨z, hz⟩ := gather_cuts (rd := rd) (size := size) (need := (CodeM.putNat t.length).length + t.length + 4) e q f ((body t).drop (64 - c)) (p + 1) ((body t).take (64 - c)) (by rw [List.length_drop]; omega) (by rw [List.length_take, List.length_drop]; omega)
        (fun j h => by
          have := hrd (j + 1) (by simpa using h)
          rw [show p + 1 + j = p + (j + 1) by omega, this]
          simp) (by omega) (size - p) (by omega)
      refine ⟨z, ?_⟩
      rw [hz, List.take_append_drop, show p + 1 + (cuts e q f 2 ((body t).drop (64 - c))).length = p + ((cuts e q f 2 ((body t).drop (64 - c))).length + 1) by omega]
  obtain ⟨z, hz⟩ := hg
  rw [hz]
  dsimp only
  have k1 : (body t ++ z).take ((CodeM.putNat t.length).length + t.length + 4) = body t := by rw [← hb]; exact List.take_left
  have k2 : (body t ++ z).take ((CodeM.putNat t.length).length + t.length) = CodeM.putText t := by
    unfold body fold
    rw [List.append_assoc, show (CodeM.putNat t.length).length + t.length = (CodeM.putText t).length by unfold CodeM.putText; rw [List.length_append]]
    exact List.take_left
  rw [k1, k2, if_pos (show fold (CodeM.putText t) = body t from rfl)]
  have k3 : (CodeM.putText t).drop (CodeM.putNat t.length).length = t := by unfold CodeM.putText; exact List.drop_left
  rw [k3, show p + ((cuts e q f 2 ((body t).drop (64 - c))).length + 1) - p = (cuts e q f 2 ((body t).drop (64 - c))).length + 1 by omega]
end WalM
end
section
namespace WalM
/-- A sector of an epoch before E, or none. -/
structure Old (E : Int) (s : List UInt8) : Prop where
  first : ∀ q e r, headed s q = some (e, r) → e < E
  more : ∀ e q, E ≤ e → I64 e → I64 q → ¬ head 2 e q <+: s
theorem Old.mono {E E' : Int} {s : List UInt8} (h : Old E s) (hE : E ≤ E') : Old E' s :=
  ⟨fun q e r h1 => by have := h.first q e r h1; omega, fun e q h1 => h.more e q (by omega)⟩
theorem old_zero (E : Int) : Old E (List.replicate 64 0) := by
  refine ⟨fun q e r h => ?_, fun e q _ _ _ h => ?_⟩
  · simp [headed, List.replicate_succ] at h
  · obtain ⟨t, ht⟩ := h
    unfold head at ht
    simp [List.replicate_succ] at ht
/-- A sector of record q, of epoch e. -/
def IsSec (e q : Int) (s : List UInt8) : Prop := ∃ m x, s = head m e q ++ x
theorem IsSec.old {e q E : Int} {s : List UInt8} (he : I64 e) (hq : I64 q) (hE : e < E) (h : IsSec e q s) : Old E s := by
  obtain ⟨m, x, rfl⟩ := h
  refine ⟨fun q' e' r h => ?_, fun e' q' h1 h2 h3 h => ?_⟩
  · have := headed_is he hq h; omega
  · have := head_is he hq h2 h3 h; omega
theorem cuts_form (e q : Int) : ∀ (f : Nat) (m : UInt8) (l : List UInt8), ∀ s ∈ cuts e q f m l, s.length ≤ 64 ∧ ∃ m' x, s = head m' e q ++ x
  | 0, _, _, s, h => by simp [cuts] at h
  | f + 1, m, l, s, h => by
    rw [cuts] at h
    split at h
    · cases h
    · have hl := head_len m e q
      rcases List.mem_cons.1 h with rfl | h
      · exact ⟨by rw [List.length_append, List.length_take]; omega, m, _, rfl⟩
      · exact cuts_form e q f 2 _ s h
theorem pad_sec {e q : Int} {s : List UInt8} (h : ∃ m x, s = head m e q ++ x) : IsSec e q (pad s) := by
  obtain ⟨m, x, rfl⟩ := h
  exact ⟨m, _, by unfold pad; rw [List.append_assoc]⟩
theorem sectors_form {e q : Int} {t s : List UInt8} (h : s ∈ sectors e q t) : s.length ≤ 64 ∧ IsSec e q (pad s) := by
  obtain ⟨h1, h2⟩ := cuts_form e q _ _ _ s h
  exact ⟨h1, pad_sec h2⟩
theorem sectors_pos (e q : Int) (t : List UInt8) : 1 ≤ (sectors e q t).length := by
  obtain ⟨f, _, h⟩ := sectors_cons e q t
  rw [h]; simp
/-- What is read of other places is as well read of these, if they have what is asked for. -/
theorem gather_mono {rd rd' : Nat → List UInt8} {size need : Nat} {h : List UInt8} : ∀ (g p : Nat) (acc : List UInt8), (∀ p', p ≤ p' → p' < size → h <+: rd' p' → rd' p' = rd p') → ∀ {x}, gather rd' size h need g p acc = some x → gather rd size h need g p acc = some x
  | 0, p, acc, _, x, hx => hx
  | g + 1, p, acc, hs, x, hx => by
    rw [gather] at hx ⊢
    split
    · rename_i h1; rw [if_pos h1] at hx; exact hx
    · rename_i h1
      rw [if_neg h1] at hx
      split
      · rename_i h2; rw [if_pos h2] at hx; exact hx
      · rename_i h2
        rw [if_neg h2] at hx
        split at hx
        · rename_i h3
          have e := hs p (Nat.le_refl _) (by omega) (List.isPrefixOf_iff_prefix.1 h3)
          rw [← e, if_pos h3]
          exact gather_mono g (p + 1) _ (fun p' h4 => hs p' (by omega)) hx
        · cases hx
theorem read_mono {rd rd' : Nat → List UInt8} {size p : Nat} {q e : Int} {t : List UInt8} {n : Nat} (h0 : rd' p = rd p) (hs : ∀ r, headed (rd' p) q = some (e, r) → ∀ p', p < p' → p' < size → head 2 e q <+: rd' p' → rd' p' = rd p') (h : readRec rd' size p q = some (e, t, n)) : readRec rd size p q = some (e, t, n) := by
  unfold readRec at h ⊢
  split
  · rename_i h1; rw [if_pos h1] at h; exact h
  · rename_i h1
    rw [if_neg h1] at h
    rw [h0] at hs h
    revert h
    cases hh : headed (rd p) q with
    | none => exact id
    | some x =>
      obtain ⟨e', all⟩ := x
      dsimp only
      intro h
      split
      · rename_i h2; rw [if_pos h2] at h; exact h
      · rename_i h2
        rw [if_neg h2] at h
        revert h
        cases hg : gather rd' size (head 2 e' q) ((CodeM.getNat all).2.1 + (CodeM.getNat all).1 + 4) (size - p) (p + 1) all with
        | none => intro h; cases h
        | some y =>
          dsimp only
          intro h
          have e1 : e' = e := by
            split at h
            · exact (Prod.mk.inj (Option.some.inj h)).1
            · cases h
          subst e1
          rw [gather_mono (size - p) (p + 1) all (fun p' h3 h4 => hs all hh p' (by omega) h4) hg]
          exact h
theorem gather_cover {rd : Nat → List UInt8} {size need : Nat} (e q : Int) (hlen : ∀ p, (rd p).length = 64) : ∀ (f : Nat) (rest : List UInt8) (p : Nat) (acc : List UInt8) (g : Nat), rest.length ≤ f → acc.length + rest.length = need →
    ∀ {x}, gather rd size (head 2 e q) need g p acc = some x → ∀ j, j < (cuts e q f 2 rest).length → head 2 e q <+: rd (p + j)
  | 0, rest, p, acc, g, _, _, x, _, j, hj => by simp [cuts] at hj
  | f + 1, rest, p, acc, g, h1, h2, x, hx, j, hj => by
    rw [cuts] at hj
    split at hj
    · simp at hj
    · rename_i hr
      have hl := head_len 2 e q
      have hr0 : 0 < rest.length := List.length_pos_iff.2 hr
      cases g with
      | zero => rw [gather, if_neg (by omega)] at hx; cases hx
      | succ g =>
        rw [gather, if_neg (by omega)] at hx
        split at hx
        · cases hx
        · split at hx
          · rename_i h3
            cases j with
            | zero => exact List.isPrefixOf_iff_prefix.1 h3
            | succ j =>
              rw [List.length_cons] at hj
              by_cases hc : rest.length ≤ 64 - (head 2 e q).length
              · rw [List.drop_of_length_le hc] at hj
                have : cuts e q f 2 [] = [] := by cases f <;> simp [cuts]
                rw [this] at hj
                simp at hj
              · have := gather_cover e q hlen f (rest.drop (64 - (head 2 e q).length)) (p + 1) _ g (by rw [List.length_drop]; omega) (by rw [List.length_append, List.length_drop, List.length_drop, hlen p]; omega) hx j (by omega)
                rwa [show p + 1 + j = p + (j + 1) by omega] at this
          · cases hx
/-- If a record's first sector is there, and something is read, all its sectors have its head. -/
theorem read_cover {rd : Nat → List UInt8} {size p : Nat} {e q : Int} {t : List UInt8} (he : I64 e) (hq : I64 q) (ht : t.length ≤ 300) (hlen : ∀ p, (rd p).length = 64)
    (h0 : ∀ h : 0 < (sectors e q t).length, rd p = pad (sectors e q t)[0]) {x} (hx : readRec rd size p q = some x) (j : Nat) (hj : j + 1 < (sectors e q t).length) : head 2 e q <+: rd (p + (j + 1)) := by
  obtain ⟨f, hf, hs⟩ := sectors_cons e q t
  have hb := body_len t
  have hl := head_len 1 e q
  have hk := CodeM.put_len t.length
  have e0 := h0 (by omega)
  rw [List.getElem_of_eq hs (by omega)] at e0
  simp only [List.getElem_cons_zero] at e0
  rw [hs, List.length_cons] at hj
  have e1 : headed (rd p) q = some (e, (body t).take (64 - (head 1 e q).length) ++ List.replicate (64 - (head 1 e q ++ (body t).take (64 - (head 1 e q).length)).length) 0) := by
    rw [e0]
    unfold pad
    rw [List.append_assoc]
    exact headed_first he hq _
  have hB : body t = CodeM.putNat t.length ++ (t ++ FoldSum.tail (CodeM.putText t)) := by
    unfold body fold
    conv => lhs; arg 1; unfold CodeM.putText
    rw [List.append_assoc]
  generalize hZ : List.replicate (64 - (head 1 e q ++ (body t).take (64 - (head 1 e q).length)).length) (0 : UInt8) = Z at e1
  generalize hH : (head 1 e q).length = c at *
  have e2 : CodeM.getNat ((body t).take (64 - c) ++ Z) = (t.length, (CodeM.putNat t.length).length, 0) := by
    rw [hB, List.take_append, List.take_of_length_le (by omega), List.append_assoc]
    exact CodeM.get_put _ _ (by omega)
  unfold readRec at hx
  split at hx
  · cases hx
  · rw [e1] at hx
    dsimp only at hx
    rw [e2] at hx
    dsimp only at hx
    rw [if_neg (by omega)] at hx
    by_cases hc : (body t).length ≤ 64 - c
    · rw [List.drop_of_length_le hc] at hj
      have : cuts e q f 2 [] = [] := by cases f <;> simp [cuts]
      rw [this] at hj
      simp at hj
    · have f1 : Z = [] := by
        rw [← hZ, List.length_append, hH, List.length_take, show 64 - (c + min (64 - c) (body t).length) = 0 by omega, List.replicate_zero]
      rw [f1, List.append_nil] at hx
      revert hx
      cases hg : gather rd size (head 2 e q) ((CodeM.putNat t.length).length + t.length + 4) (size - p) (p + 1) ((body t).take (64 - c)) with
      | none => intro hx; cases hx
      | some y =>
        intro _
        have := gather_cover e q hlen f ((body t).drop (64 - c)) (p + 1) ((body t).take (64 - c)) (size - p) (by rw [List.length_drop]; omega) (by rw [List.length_take, List.length_drop]; omega) hg j (by omega)
        rwa [show p + 1 + j = p + (j + 1) by omega] at this
end WalM
end
section
namespace WalM
/-- A record: its epoch, its text. -/
structure Rcd where
  e : Int
  t : List UInt8
def cnt (q : Nat) (r : Rcd) : Nat := (sectors r.e q r.t).length
/-- Records stand, one behind another. -/
def Holds (C : Nat → List UInt8) : Nat → Nat → List Rcd → Prop
  | _, _, [] => True
  | p, q, r :: rs => (∀ j (h : j < (sectors r.e q r.t).length), C (p + j) = pad (sectors r.e q r.t)[j]) ∧ Holds C (p + cnt q r) (q + 1) rs
def stop : Nat → Nat → List Rcd → Nat
  | p, _, [] => p
  | p, q, r :: rs => stop (p + cnt q r) (q + 1) rs
/-- Epochs that do not fall, texts that are not too long. -/
def Fine : Int → List Rcd → Prop
  | _, [] => True
  | last, r :: rs => last ≤ r.e ∧ I64 r.e ∧ r.t.length ≤ 300 ∧ Fine r.e rs
def lastE (last : Int) (rs : List Rcd) : Int := rs.foldl (fun _ r => r.e) last
theorem lastE_cons (last : Int) (r : Rcd) (rs : List Rcd) : lastE last (r :: rs) = lastE r.e rs := rfl
theorem stop_append : ∀ (p q : Nat) (a b : List Rcd), stop p q (a ++ b) = stop (stop p q a) (q + a.length) b
  | _, _, [], _ => rfl
  | p, q, r :: a, b => by
    show stop (p + cnt q r) (q + 1) (a ++ b) = stop (stop (p + cnt q r) (q + 1) a) (q + (a.length + 1)) b
    rw [stop_append, show q + 1 + a.length = q + (a.length + 1) by omega]
theorem stop_le : ∀ (p q : Nat) (a : List Rcd), p + a.length ≤ stop p q a
  | p, q, [] => Nat.le_refl _
  | p, q, r :: a => by
    have := stop_le (p + cnt q r) (q + 1) a
    have h := sectors_pos r.e q r.t
    show p + (a.length + 1) ≤ stop (p + cnt q r) (q + 1) a
    unfold cnt at *
    omega
theorem Holds.append {C : Nat → List UInt8} : ∀ {p q : Nat} {a b : List Rcd}, Holds C p q (a ++ b) ↔ Holds C p q a ∧ Holds C (stop p q a) (q + a.length) b
  | p, q, [], b => by simp [Holds, stop]
  | p, q, r :: a, b => by
    show (_ ∧ Holds C (p + cnt q r) (q + 1) (a ++ b)) ↔ (_ ∧ Holds C (p + cnt q r) (q + 1) a) ∧ Holds C (stop (p + cnt q r) (q + 1) a) (q + (a.length + 1)) b
    rw [Holds.append, show q + 1 + a.length = q + (a.length + 1) by omega, and_assoc]
theorem Holds.congr {C C' : Nat → List UInt8} : ∀ {p q : Nat} {a : List Rcd}, Holds C p q a → (∀ x, p ≤ x → x < stop p q a → C' x = C x) → Holds C' p q a
  | _, _, [], _, _ => True.intro
  | p, q, r :: a, h, hc => by
    have h1 := stop_le (p + cnt q r) (q + 1) a
    refine ⟨fun j hj => ?_, Holds.congr h.2 fun x h2 h3 => hc x (by omega) h3⟩
    rw [hc (p + j) (by omega) (by show p + j < stop (p + cnt q r) (q + 1) a; unfold cnt at *; omega)]
    exact h.1 j hj
theorem Fine.append : ∀ {last : Int} {a b : List Rcd}, Fine last (a ++ b) ↔ Fine last a ∧ Fine (lastE last a) b
  | last, [], b => by simp [Fine, lastE]
  | last, r :: a, b => by
    show (_ ∧ _ ∧ _ ∧ Fine r.e (a ++ b)) ↔ (_ ∧ _ ∧ _ ∧ Fine r.e a) ∧ Fine (lastE r.e a) b
    rw [Fine.append]
    simp only [and_assoc]
theorem Fine.le : ∀ {last : Int} {a : List Rcd}, Fine last a → last ≤ lastE last a
  | _, [], _ => Int.le_refl _
  | last, r :: a, h => by
    rw [lastE_cons]
    have := Fine.le h.2.2.2
    have := h.1
    omega
/-- Nothing (more) is read here. -/
def Stops (C : Nat → List UInt8) (size p q : Nat) (last : Int) : Prop := ∀ e t n, readRec C size p q = some (e, t, n) → e < last
theorem I64.low {n m : Nat} (h : I64 (n : Int)) (hm : m ≤ n) : I64 (m : Int) := by unfold I64 at *; omega
/-- What stands is told, up to where nothing more is read. -/
theorem parse_holds {C : Nat → List UInt8} {size : Nat} {top : Int} : ∀ (a : List Rcd) (p q : Nat) (last : Int) (f : Nat), Holds C p q a → Fine last a → lastE last a ≤ top → stop p q a ≤ size → I64 ((q + a.length : Nat) : Int) → Stops C size (stop p q a) (q + a.length) (lastE last a) → a.length < f →
    parse C size top f p q last = (a.map Rcd.t, stop p q a, q + a.length)
  | [], p, q, last, f, _, _, _, _, _, h6, h7 => by
    obtain ⟨f, rfl⟩ : ∃ g, f = g + 1 := ⟨f - 1, by simp at h7; omega⟩
    rw [parse]
    cases h : readRec C size p q with
    | none => rfl
    | some x =>
      obtain ⟨e, t, n⟩ := x
      dsimp only
      have : e < last := h6 e t n h
      rw [if_pos (Or.inl this)]
      rfl
  | r :: a, p, q, last, f, h1, h2, h3, h4, h5, h6, h7 => by
    obtain ⟨f, rfl⟩ : ∃ g, f = g + 1 := ⟨f - 1, by simp at h7; omega⟩
    have h8 := stop_le (p + cnt q r) (q + 1) a
    have h9 := h2.2.2.2.le
    rw [lastE_cons] at h3
    rw [List.length_cons] at h5 h6 h7
    rw [show stop p q (r :: a) = stop (p + cnt q r) (q + 1) a from rfl] at h4 h6 ⊢
    have hq : cnt q r = (sectors r.e (q : Int) r.t).length := rfl
    have hr := read_ok (rd := C) (size := size) (p := p) (e := r.e) (q := (q : Int)) (t := r.t) h2.2.1 (I64.low h5 (by omega)) h2.2.2.1 h1.1 (by rw [← hq]; omega)
    rw [parse, hr]
    dsimp only
    rw [if_neg (by have := h2.1; omega)]
    have ih := parse_holds a (p + cnt q r) (q + 1) r.e f h1.2 h2.2.2.2 h3 h4 (by rw [show q + 1 + a.length = q + (a.length + 1) by omega]; exact h5) (by rw [show q + 1 + a.length = q + (a.length + 1) by omega]; exact h6) (by omega)
    rw [show p + (sectors r.e (↑q) r.t).length = p + cnt q r from rfl, ih]
    rw [List.map_cons, List.length_cons, show q + 1 + a.length = q + (a.length + 1) by omega]
theorem zag_i64 {n : Nat} (h : n < 18446744073709551616) : I64 (CodeM.zag n) := by
  unfold CodeM.zag I64
  split <;> omega
theorem headed_i64 {s r : List UInt8} {q e : Int} (h : headed s q = some (e, r)) : I64 e := by
  unfold headed at h
  split at h
  · cases h
  · split at h
    · cases h
    · split at h
      · cases h
      · rename_i r1 _ g1
        split at h
        · have e1 := (Prod.mk.inj (Option.some.inj h)).1
          rw [← e1]
          have g2 : (CodeM.getNat r1).2.2 = 0 := Classical.not_not.1 g1
          have g3 : CodeM.getNat r1 = ((CodeM.getNat r1).1, (CodeM.getNat r1).2.1, 0) := by rw [← g2]
          exact zag_i64 (CodeM.get_ok g3).2.2.1
        · cases h
theorem read_headed {C : Nat → List UInt8} {size p n : Nat} {q e : Int} {t : List UInt8} (h : readRec C size p q = some (e, t, n)) : ∃ r, headed (C p) q = some (e, r) := by
  unfold readRec at h
  split at h
  · cases h
  · revert h
    cases hh : headed (C p) q with
    | none => intro h; cases h
    | some x =>
      obtain ⟨e', all⟩ := x
      dsimp only
      intro h
      split at h
      · cases h
      · revert h
        cases gather C size (head 2 e' q) ((CodeM.getNat all).2.1 + (CodeM.getNat all).1 + 4) (size - p) (p + 1) all with
        | none => intro h; cases h
        | some y =>
          dsimp only
          intro h
          split at h
          · exact ⟨all, by rw [(Prod.mk.inj (Option.some.inj h)).1]⟩
          · cases h
/-- All that was asked for is there, or one sector is as it was before: then nothing is read. -/
theorem stops_here {C O : Nat → List UInt8} {size p q : Nat} {E last : Int} {t : List UInt8} (hE : I64 E) (hq : I64 q) (ht : t.length ≤ 300) (hO : ∀ x, Old E (O x)) (hlen : ∀ x, (C x).length = 64)
    (hC : ∀ x, p ≤ x → x < size → C x = O x ∨ ∃ q', I64 q' ∧ IsSec E q' (C x)) (hb : C p = O p → Stops O size p q last ∨ last = E)
    (hf : C p ≠ O p → (∀ h : 0 < (sectors E q t).length, C p = pad (sectors E q t)[0]) ∧ ∃ j, j + 1 < (sectors E q t).length ∧ C (p + (j + 1)) = O (p + (j + 1))) : Stops C size p q last := by
  intro e t' n h
  by_cases h0 : C p = O p
  · have h1 : readRec O size p q = some (e, t', n) := by
      refine read_mono h0 (fun r hh p' h2 h3 h4 => ?_) h
      rcases hC p' (by omega) h3 with h5 | ⟨q', h5, h6⟩
      · exact h5
      · exfalso
        rw [h0] at hh
        have h7 := (hO p).first _ _ _ hh
        have h8 := h6.old hE h5 (show E < E + 1 by omega)
        obtain ⟨m, x, h9⟩ := h6
        rw [h9] at h4
        have hei := headed_i64 hh
        have := (head_is hE h5 hei hq h4).2.1
        omega
    rcases hb h0 with h2 | h2
    · exact h2 e t' n h1
    · obtain ⟨r, h3⟩ := read_headed h1
      have := (hO p).first _ _ _ h3
      omega
  · obtain ⟨h1, j, h2, h3⟩ := hf h0
    have h4 := read_cover hE hq ht hlen h1 h j h2
    rw [h3] at h4
    exact absurd h4 ((hO _).more E q (Int.le_refl _) hE hq)
end WalM
end
section
namespace WalM
/-- The sectors of records, one behind another. -/
def flat : Nat → List Rcd → List (List UInt8)
  | _, [] => []
  | q, r :: rs => (sectors r.e q r.t).map pad ++ flat (q + 1) rs
theorem flat_append : ∀ (q : Nat) (a b : List Rcd), flat q (a ++ b) = flat q a ++ flat (q + a.length) b
  | _, [], _ => rfl
  | q, r :: a, b => by
    show _ ++ flat (q + 1) (a ++ b) = (_ ++ flat (q + 1) a) ++ flat (q + (a.length + 1)) b
    rw [flat_append, show q + 1 + a.length = q + (a.length + 1) by omega, List.append_assoc]
theorem stop_flat : ∀ (p q : Nat) (a : List Rcd), stop p q a = p + (flat q a).length
  | _, _, [] => rfl
  | p, q, r :: a => by
    show stop (p + cnt q r) (q + 1) a = p + (_ ++ flat (q + 1) a).length
    rw [stop_flat, List.length_append, List.length_map]
    unfold cnt
    omega
theorem holds_flat {C : Nat → List UInt8} : ∀ {p q : Nat} {a : List Rcd}, Holds C p q a ↔ ∀ j s, (flat q a)[j]? = some s → C (p + j) = s
  | p, q, [] => by simp [Holds, flat]
  | p, q, r :: a => by
    show (_ ∧ Holds C (p + cnt q r) (q + 1) a) ↔ _
    rw [holds_flat]
    show _ ↔ ∀ j s, (((sectors r.e q r.t).map pad ++ flat (q + 1) a)[j]? = some s → C (p + j) = s)
    constructor
    · rintro ⟨h1, h2⟩ j s h
      by_cases hj : j < (sectors r.e q r.t).length
      · rw [List.getElem?_append_left (by simpa using hj), List.getElem?_map, List.getElem?_eq_getElem hj] at h
        have := h1 j hj
        rw [this]
        exact Option.some.inj h
      · rw [List.getElem?_append_right (by simpa using hj), List.length_map] at h
        have := h2 _ _ h
        unfold cnt at this
        rw [show p + (sectors r.e (↑q) r.t).length + (j - (sectors r.e (↑q) r.t).length) = p + j by omega] at this
        exact this
    · intro h
      refine ⟨fun j hj => h j _ ?_, fun j s h1 => ?_⟩
      · rw [List.getElem?_append_left (by simpa using hj), List.getElem?_map, List.getElem?_eq_getElem hj]; rfl
      · have := h (cnt q r + j) s (by
          rw [List.getElem?_append_right (by simp [cnt]), List.length_map, show cnt q r + j - (sectors r.e q r.t).length = j by unfold cnt; omega]
          exact h1)
        rwa [← Nat.add_assoc] at this
theorem flat_sec {q : Nat} {a : List Rcd} {E : Int} (hE : ∀ r ∈ a, r.e = E) {s : List UInt8} (h : s ∈ flat q a) : ∃ q' : Nat, q' < q + a.length ∧ IsSec E q' s ∧ s.length = 64 := by
  induction a generalizing q with
  | nil => cases h
  | cons r a ih =>
    rcases List.mem_append.1 h with h | h
    · obtain ⟨x, hx, rfl⟩ := List.mem_map.1 h
      obtain ⟨h1, h2⟩ := sectors_form hx
      refine ⟨q, by simp, ?_, pad_len h1⟩
      rw [← hE r List.mem_cons_self]; exact h2
    · obtain ⟨q', h1, h2⟩ := ih (fun r hr => hE r (List.mem_cons_of_mem _ hr)) h
      exact ⟨q', by rw [List.length_cons]; omega, h2⟩
theorem lastE_append (last : Int) (a b : List Rcd) : lastE last (a ++ b) = lastE (lastE last a) b := by unfold lastE; rw [List.foldl_append]
theorem lastE_all {a : List Rcd} {E : Int} (h : ∀ r ∈ a, r.e = E) (h0 : a ≠ []) (last : Int) : lastE last a = E := by
  induction a generalizing last with
  | nil => exact absurd rfl h0
  | cons r a ih =>
    rw [lastE_cons]
    by_cases ha : a = []
    · subst ha; exact h r List.mem_cons_self
    · exact ih (fun r hr => h r (List.mem_cons_of_mem _ hr)) ha _
/-- A log: old records, those of this epoch, the part of one more, and what may be where after a fall. -/
structure J (size : Nat) (E : Int) (old new : List Rcd) (part : List (List UInt8)) (k : Nat) (Poss : Nat → List UInt8 → Prop) (O : Nat → List UInt8) : Prop where
  base : Holds O 1 0 old
  oldE : ∀ x, Old E (O x)
  fine : Fine 0 (old ++ new)
  newE : ∀ r ∈ new, r.e = E
  i64 : I64 E
  top : lastE 0 old ≤ E
  fit : stop 1 0 (old ++ new) ≤ size
  prt : part = [] ∨ ∃ t, t.length ≤ 300 ∧ part.length < (sectors E (old ++ new).length t).length ∧ part = ((sectors E (old ++ new).length t).map pad).take part.length ∧ stop 1 0 (old ++ new) + (sectors E (old ++ new).length t).length ≤ size
  poss : ∀ x c, 1 ≤ x → x < size → Poss x c → c = O x ∨ (stop 1 0 old ≤ x ∧ (flat old.length new ++ part)[x - stop 1 0 old]? = some c)
  sure : ∀ x c, stop 1 0 old ≤ x → x < stop 1 0 (old ++ new.take k) → Poss x c → (flat old.length new ++ part)[x - stop 1 0 old]? = some c
  kle : k ≤ new.length
  rest : k = 0 → Stops O size (stop 1 0 old) old.length (lastE 0 old)
  small : size ≤ 100000
section
variable {size : Nat} {E : Int} {old new : List Rcd} {part : List (List UInt8)} {k : Nat} {Poss : Nat → List UInt8 → Prop} {O : Nat → List UInt8}
theorem J.num (h : J size E old new part k Poss O) : I64 (((old ++ new).length : Nat) : Int) := by
  have h1 := stop_le 1 0 (old ++ new)
  have h2 := h.fit
  have h3 := h.small
  unfold I64
  omega
theorem J.sec (h : J size E old new part k Poss O) {x : Nat} {c : List UInt8} (hx : (flat old.length new ++ part)[x]? = some c) : ∃ q' : Int, I64 q' ∧ IsSec E q' c ∧ c.length = 64 := by
  have hm := List.mem_of_getElem? hx
  rcases List.mem_append.1 hm with hm | hm
  · obtain ⟨q', h1, h2⟩ := flat_sec h.newE hm
    exact ⟨q', h.num.low (by rw [List.length_append]; omega), h2⟩
  · rcases h.prt with h1 | ⟨t, _, _, h3, _⟩
    · rw [h1] at hm; cases hm
    · rw [h3] at hm
      obtain ⟨y, hy, rfl⟩ := List.mem_map.1 (List.mem_of_mem_take hm)
      obtain ⟨h4, h5⟩ := sectors_form hy
      exact ⟨_, h.num, h5, pad_len h4⟩
/-- Whatever falls: a beginning of the records is told, with all that are sure. -/
theorem J.falls (h : J size E old new part k Poss O) {C : Nat → List UInt8} (hC : ∀ x, 1 ≤ x → x < size → Poss x (C x)) (hlen : ∀ x, (C x).length = 64) :
    ∃ m, k ≤ m ∧ m ≤ new.length ∧ Holds C 1 0 (old ++ new.take m) ∧ Stops C size (stop 1 0 (old ++ new.take m)) (old ++ new.take m).length (lastE 0 (old ++ new.take m)) := by
  have hO : Holds C 1 0 old := h.base.congr fun x h1 h2 => by
    have h3 := h.fit
    rw [stop_append] at h3
    have h4 := stop_le (stop 1 0 old) (0 + old.length) new
    rcases h.poss x (C x) h1 (by omega) (hC x h1 (by omega)) with h5 | ⟨h5, _⟩
    · exact h5
    · omega
  have key : ∀ (new2 new1 : List Rcd), new = new1 ++ new2 → Holds C 1 0 (old ++ new1) → ∃ m, k ≤ m ∧ m ≤ new.length ∧ Holds C 1 0 (old ++ new.take m) ∧ Stops C size (stop 1 0 (old ++ new.take m)) (old ++ new.take m).length (lastE 0 (old ++ new.take m)) := by
    intro new2
    induction new2 with
    | nil =>
      intro new1 e h1
      rw [List.append_nil] at e
      subst e
      refine ⟨new.length, h.kle, Nat.le_refl _, by rw [List.take_length]; exact h1, ?_⟩
      rw [List.take_length]
      by_cases hp : size ≤ stop 1 0 (old ++ new)
      · intro e t n hr
        unfold readRec at hr
        rw [if_pos hp] at hr
        cases hr
      have hst : stop 1 0 (old ++ new) = stop 1 0 old + (flat old.length new).length := by rw [stop_append, Nat.zero_add, stop_flat]
      have hlo := stop_le 1 0 old
      have hCx : ∀ x, stop 1 0 (old ++ new) ≤ x → x < size → C x = O x ∨ ∃ q', I64 q' ∧ IsSec E q' (C x) := fun x h2 h3 => by
        rcases h.poss x (C x) (by omega) h3 (hC x (by omega) h3) with h4 | ⟨_, h5⟩
        · exact Or.inl h4
        · obtain ⟨q', h6, h7, _⟩ := h.sec h5
          exact Or.inr ⟨q', h6, h7⟩
      have hlast : C (stop 1 0 (old ++ new)) = O (stop 1 0 (old ++ new)) → Stops O size (stop 1 0 (old ++ new)) (old ++ new).length (lastE 0 (old ++ new)) ∨ lastE 0 (old ++ new) = E := fun _ => by
        by_cases hn : new = []
        · left
          have hk := h.kle
          rw [hn] at hk ⊢
          rw [List.append_nil]
          exact h.rest (by simpa using hk)
        · right; rw [lastE_append]; exact lastE_all h.newE hn _
      rcases h.prt with h2 | ⟨t, h2, h3, h4, h5⟩
      · refine stops_here (t := []) h.i64 h.num (by simp) h.oldE hlen hCx hlast fun h6 => ?_
        exfalso
        rcases h.poss _ _ (by omega) (by omega) (hC (stop 1 0 (old ++ new)) (by omega) (by omega)) with h7 | ⟨_, h7⟩
        · exact h6 h7
        · rw [h2, List.append_nil, hst, Nat.add_sub_cancel_left, List.getElem?_eq_none (Nat.le_refl _)] at h7
          cases h7
      · refine stops_here (t := t) h.i64 h.num h2 h.oldE hlen hCx hlast fun h6 => ?_
        have hget : ∀ j, (flat old.length new ++ part)[stop 1 0 (old ++ new) + j - stop 1 0 old]? = part[j]? := fun j => by
          rw [hst, show stop 1 0 old + (flat old.length new).length + j - stop 1 0 old = (flat old.length new).length + j by omega, List.getElem?_append_right (by omega), Nat.add_sub_cancel_left]
        refine ⟨fun hj => ?_, part.length - 1, ?_⟩
        · rcases h.poss _ _ (by omega) (by omega) (hC (stop 1 0 (old ++ new)) (by omega) (by omega)) with h7 | ⟨_, h7⟩
          · exact absurd h7 h6
          · have := hget 0
            rw [Nat.add_zero] at this
            rw [this, h4, List.getElem?_take] at h7
            split at h7
            · rw [List.getElem?_map, List.getElem?_eq_getElem hj] at h7
              exact (Option.some.inj h7).symm
            · cases h7
        · have hp0 : 0 < part.length := by
            rcases h.poss _ _ (by omega) (by omega) (hC (stop 1 0 (old ++ new)) (by omega) (by omega)) with h7 | ⟨_, h7⟩
            · exact absurd h7 h6
            · have := hget 0
              rw [Nat.add_zero] at this
              rw [this] at h7
              have := List.getElem?_eq_some_iff.1 h7
              exact this.1
          refine ⟨by omega, ?_⟩
          rw [show part.length - 1 + 1 = part.length by omega]
          rcases h.poss (stop 1 0 (old ++ new) + part.length) _ (by omega) (by omega) (hC _ (by omega) (by omega)) with h7 | ⟨_, h7⟩
          · exact h7
          · rw [hget, List.getElem?_eq_none (Nat.le_refl _)] at h7; cases h7
    | cons r new2 ih =>
      intro new1 e h1
      have hrm : r ∈ new := by rw [e]; simp
      have hre := h.newE r hrm
      have hst : stop 1 0 (old ++ new1) = stop 1 0 old + (flat old.length new1).length := by rw [stop_append, Nat.zero_add, stop_flat]
      have hlo := stop_le 1 0 old
      have hq : ((old ++ new1).length : Nat) = old.length + new1.length := List.length_append
      have hflat : flat old.length new = flat old.length new1 ++ ((sectors r.e (old ++ new1).length r.t).map pad ++ flat (old.length + new1.length + 1) new2) := by rw [e, flat_append, hq]; rfl
      have hsz : stop 1 0 (old ++ new1) + (sectors r.e (old ++ new1).length r.t).length ≤ size := by
        have h2 := h.fit
        rw [stop_append, Nat.zero_add, stop_flat, hflat] at h2
        simp only [List.length_append, List.length_map] at h2
        rw [hst, List.length_append]
        omega
      have hget : ∀ j (hj : j < (sectors r.e (old ++ new1).length r.t).length), (flat old.length new ++ part)[stop 1 0 (old ++ new1) + j - stop 1 0 old]? = some (pad (sectors r.e (old ++ new1).length r.t)[j]) := fun j hj => by
        rw [hst, show stop 1 0 old + (flat old.length new1).length + j - stop 1 0 old = (flat old.length new1).length + j by omega, hflat, List.append_assoc, List.getElem?_append_right (by omega), Nat.add_sub_cancel_left, List.append_assoc, List.getElem?_append_left (by simpa using hj), List.getElem?_map, List.getElem?_eq_getElem hj]
        rfl
      by_cases hall : ∀ j (hj : j < (sectors r.e (old ++ new1).length r.t).length), C (stop 1 0 (old ++ new1) + j) = pad (sectors r.e (old ++ new1).length r.t)[j]
      · refine ih (new1 ++ [r]) (by rw [e]; simp) ?_
        rw [← List.append_assoc, Holds.append]
        refine ⟨h1, ?_⟩
        rw [Nat.zero_add]
        exact ⟨hall, True.intro⟩
      · have hfit := h.fit
        have htk : new.take new1.length = new1 := by rw [e]; exact List.take_left
        have hkl : k ≤ new1.length := Nat.le_of_not_lt fun hlt => hall fun j hj => by
          have h2 := h.sure (stop 1 0 (old ++ new1) + j) (C (stop 1 0 (old ++ new1) + j)) (by omega) (by
            have e1 : new.take k = new1 ++ r :: new2.take (k - new1.length - 1) := by
              rw [e, List.take_append, List.take_of_length_le (by omega), show k - new1.length = (k - new1.length - 1) + 1 by omega, List.take_succ_cons]
              simp
            have e2 : stop 1 0 (old ++ (new1 ++ r :: new2.take (k - new1.length - 1))) = stop (stop 1 0 (old ++ new1) + cnt (old ++ new1).length r) ((old ++ new1).length + 1) (new2.take (k - new1.length - 1)) := by
              rw [← List.append_assoc, stop_append, Nat.zero_add]; rfl
            rw [e1, e2]
            have := stop_le (stop 1 0 (old ++ new1) + cnt (old ++ new1).length r) ((old ++ new1).length + 1) (new2.take (k - new1.length - 1))
            have : cnt (old ++ new1).length r = (sectors r.e (old ++ new1).length r.t).length := rfl
            omega) (hC _ (by omega) (by omega))
          rw [hget j hj] at h2
          exact (Option.some.inj h2).symm
        refine ⟨new1.length, hkl, by rw [e, List.length_append]; omega, by rw [htk]; exact h1, ?_⟩
        rw [htk]
        have hnot : ∃ j, ∃ hj : j < (sectors r.e (old ++ new1).length r.t).length, C (stop 1 0 (old ++ new1) + j) ≠ pad (sectors r.e (old ++ new1).length r.t)[j] := by
          refine Classical.byContradiction fun hn => hall fun j hj => Classical.byContradiction fun hne => hn ⟨j, hj, hne⟩
        obtain ⟨j, hj, hne⟩ := hnot
        have hpj : ∀ j (hj : j < (sectors r.e (old ++ new1).length r.t).length), C (stop 1 0 (old ++ new1) + j) = O (stop 1 0 (old ++ new1) + j) ∨ C (stop 1 0 (old ++ new1) + j) = pad (sectors r.e (old ++ new1).length r.t)[j] := fun j hj => by
          rcases h.poss (stop 1 0 (old ++ new1) + j) _ (by omega) (by omega) (hC _ (by omega) (by omega)) with h7 | ⟨_, h7⟩
          · exact Or.inl h7
          · rw [hget j hj] at h7
            exact Or.inr (Option.some.inj h7).symm
        have hft := (Fine.append.1 h.fine).2
        rw [e, Fine.append] at hft
        refine stops_here (E := E) (t := r.t) h.i64 (h.num.low (by rw [e]; simp)) hft.2.2.2.1 h.oldE hlen (fun x h2 h3 => ?_) (fun _ => ?_) fun h6 => ?_
        · rcases h.poss x (C x) (by omega) h3 (hC x (by omega) h3) with h4 | ⟨_, h5⟩
          · exact Or.inl h4
          · obtain ⟨q', h6, h7, _⟩ := h.sec h5
            exact Or.inr ⟨q', h6, h7⟩
        · by_cases hn : new1 = []
          · left
            rw [hn] at hkl ⊢
            rw [List.append_nil]
            exact h.rest (by simpa using hkl)
          · right; rw [lastE_append]; exact lastE_all (fun r hr => h.newE r (by rw [e]; exact List.mem_append_left _ hr)) hn _
        · rw [hre] at hpj hj
          refine ⟨fun h0 => ?_, ?_⟩
          · rcases hpj 0 h0 with h7 | h7
            · exact absurd h7 h6
            · exact h7
          · cases j with
            | zero =>
              exfalso
              rcases hpj 0 hj with h7 | h7
              · exact h6 h7
              · apply hne
                rw [h7]
                simp only [hre]
            | succ j =>
              refine ⟨j, hj, ?_⟩
              rcases hpj (j + 1) hj with h7 | h7
              · exact h7
              · exfalso; apply hne; rw [h7]; simp only [hre]
  exact key new [] rfl (by rw [List.append_nil]; exact hO)
end
end WalM
end
section
namespace WalM
/-- What can be told of a log's region, epochs up to E, with nothing behind it. -/
structure Told (size : Nat) (E : Int) (rs : List Rcd) (C : Nat → List UInt8) : Prop where
  holds : Holds C 1 0 rs
  stops : Stops C size (stop 1 0 rs) rs.length (lastE 0 rs)
  fine : Fine 0 rs
  top : lastE 0 rs ≤ E
  fit : stop 1 0 rs ≤ size
  old : ∀ x, Old (E + 1) (C x)
  len : ∀ x, (C x).length = 64
  small : size ≤ 100000
section
variable {size : Nat} {E : Int} {old new rs : List Rcd} {part : List (List UInt8)} {k : Nat} {Poss Poss' : Nat → List UInt8 → Prop} {O C sn : Nat → List UInt8}
theorem stop_num {p : Nat} {rs : List Rcd} (h : stop p 0 rs ≤ size) (hs : size ≤ 100000) : I64 ((rs.length : Nat) : Int) ∧ rs.length ≤ size := by
  have h1 := stop_le p 0 rs
  unfold I64
  omega
/-- What is told. -/
theorem Told.parse (h : Told size E rs C) {a : Int} (ha : E ≤ a) {f : Nat} (hf : size < f) : parse C size a f 1 0 0 = (rs.map Rcd.t, stop 1 0 rs, rs.length) := by
  obtain ⟨h1, h2⟩ := stop_num h.fit h.small
  have h3 := parse_holds (C := C) (size := size) (top := a) rs 1 0 0 f h.holds h.fine (by have := h.top; omega) h.fit (by rw [Nat.zero_add]; exact h1) (by rw [Nat.zero_add]; exact h.stops) (by omega)
  rw [h3, Nat.zero_add]
theorem Told.more (h : Told size E rs C) {a : Int} (ha : E ≤ a) : Told size a rs C :=
  ⟨h.holds, h.stops, h.fine, by have := h.top; omega, h.fit, fun x => (h.old x).mono (by omega), h.len, h.small⟩
/-- A log as it is opened. -/
theorem Told.j (h : Told size E rs C) (hE : I64 (E + 1)) : J size (E + 1) rs [] [] 0 (fun x c => c = C x) C where
  base := h.holds
  oldE := h.old
  fine := by rw [List.append_nil]; exact h.fine
  newE := by simp
  i64 := hE
  top := by have := h.top; omega
  fit := by rw [List.append_nil]; exact h.fit
  prt := Or.inl rfl
  poss := fun x c _ _ hc => Or.inl hc
  sure := fun x c h1 h2 _ => by simp at h2; omega
  kle := Nat.le_refl _
  rest := fun _ => h.stops
  small := h.small
theorem Fine.take {last : Int} {a : List Rcd} (h : Fine last a) (m : Nat) : Fine last (a.take m) := by
  rw [← List.take_append_drop m a] at h
  exact (Fine.append.1 h).1
theorem lastE_le {last : Int} {a b : List Rcd} (h : Fine last (a ++ b)) : lastE last a ≤ lastE last (a ++ b) := by
  rw [lastE_append]
  exact (Fine.append.1 h).2.le
theorem stop_take (a b : List Rcd) (m : Nat) : stop 1 0 (a ++ b.take m) ≤ stop 1 0 (a ++ b) := by
  conv => rhs; rw [← List.take_append_drop m b, ← List.append_assoc, stop_append]
  have := stop_le (stop 1 0 (a ++ b.take m)) (0 + (a ++ b.take m).length) (b.drop m)
  omega
theorem J.lastE (h : J size E old new part k Poss O) : WalM.lastE 0 (old ++ new) ≤ E := by
  rw [lastE_append]
  by_cases hn : new = []
  · subst hn; exact h.top
  · rw [lastE_all h.newE hn]
    exact Int.le_refl _
/-- Behind a fall. -/
theorem J.told (h : J size E old new part k Poss O) (hC : ∀ x, 1 ≤ x → x < size → Poss x (C x)) (hlen : ∀ x, (C x).length = 64) (hz : ∀ x, ¬ (1 ≤ x ∧ x < size) → C x = List.replicate 64 0) :
    ∃ m, k ≤ m ∧ m ≤ new.length ∧ Told size E (old ++ new.take m) C := by
  obtain ⟨m, h1, h2, h3, h4⟩ := h.falls hC hlen
  have hf := h.fine
  have e : old ++ new = (old ++ new.take m) ++ new.drop m := by rw [List.append_assoc, List.take_append_drop]
  refine ⟨m, h1, h2, h3, h4, ?_, ?_, Nat.le_trans (stop_take old new m) h.fit, fun x => ?_, hlen, h.small⟩
  · rw [e] at hf; exact (Fine.append.1 hf).1
  · have := h.lastE
    have h5 : WalM.lastE 0 (old ++ new.take m) ≤ WalM.lastE 0 (old ++ new) := by
      rw [e] at hf ⊢; exact lastE_le hf
    omega
  · by_cases hx : 1 ≤ x ∧ x < size
    · rcases h.poss x (C x) hx.1 hx.2 (hC x hx.1 hx.2) with h5 | ⟨_, h5⟩
      · rw [h5]; exact (h.oldE x).mono (by omega)
      · obtain ⟨q', h6, h7, _⟩ := h.sec h5
        exact h7.old h.i64 h6 (by omega)
    · rw [hz x hx]; exact old_zero _
theorem J.mono (h : J size E old new part k Poss O) (hp : ∀ x c, Poss' x c → Poss x c) : J size E old new part k Poss' O :=
  ⟨h.base, h.oldE, h.fine, h.newE, h.i64, h.top, h.fit, h.prt, fun x c h1 h2 h3 => h.poss x c h1 h2 (hp x c h3), fun x c h1 h2 h3 => h.sure x c h1 h2 (hp x c h3), h.kle, h.rest, h.small⟩
/-- What is seen of a log. -/
structure Seen (size : Nat) (old new : List Rcd) (part : List (List UInt8)) (Poss : Nat → List UInt8 → Prop) (sn : Nat → List UInt8) : Prop where
  is : ∀ j s, (flat old.length new ++ part)[j]? = some s → sn (stop 1 0 old + j) = s
  in_ : ∀ x, 1 ≤ x → x < size → Poss x (sn x)
  len : ∀ x, (sn x).length = 64
  zero : ∀ x, ¬ (1 ≤ x ∧ x < size) → sn x = List.replicate 64 0
theorem Seen.holds (hs : Seen size old new part Poss sn) (h : J size E old new part k Poss O) : Holds sn 1 0 (old ++ new) := by
  rw [Holds.append]
  refine ⟨h.base.congr fun x h1 h2 => ?_, holds_flat.2 fun j s h1 => ?_⟩
  · have h3 := h.fit
    rw [stop_append] at h3
    have h4 := stop_le (stop 1 0 old) (0 + old.length) new
    rcases h.poss x (sn x) h1 (by omega) (hs.in_ x h1 (by omega)) with h5 | ⟨h5, _⟩
    · exact h5
    · omega
  · rw [Nat.zero_add] at h1
    exact hs.is j s (by rw [List.getElem?_append_left ((List.getElem?_eq_some_iff.1 h1).1)]; exact h1)
/-- All is made safe. -/
theorem J.flush (h : J size E old new part k Poss O) (hs : Seen size old new part Poss sn) (hp : ∀ x c, 1 ≤ x → x < size → Poss' x c → c = sn x) (hq : ∀ x, 1 ≤ x → x < size → Poss' x (sn x)) (hr : ∀ x c, Poss' x c → 1 ≤ x ∧ x < size) : J size E old new part new.length Poss' O ∧ Seen size old new part Poss' sn := by
  refine ⟨⟨h.base, h.oldE, h.fine, h.newE, h.i64, h.top, h.fit, h.prt, fun x c h1 h2 h3 => ?_, fun x c h1 h2 h3 => ?_, Nat.le_refl _, fun hk => h.rest (by have := h.kle; omega), h.small⟩, hs.is, hq, hs.len, hs.zero⟩
  · rw [hp x c h1 h2 h3]; exact h.poss x _ h1 h2 (hs.in_ x h1 h2)
  · obtain ⟨h4, h5⟩ := hr x c h3
    have e := hp x c h4 h5 h3
    rw [List.take_length] at h2
    have h6 : x - stop 1 0 old < (flat old.length new).length := by
      rw [stop_append, Nat.zero_add, stop_flat] at h2; omega
    have h7 := hs.is (x - stop 1 0 old) (flat old.length new)[x - stop 1 0 old] (by rw [List.getElem?_append_left h6]; exact List.getElem?_eq_getElem h6)
    rw [show stop 1 0 old + (x - stop 1 0 old) = x by omega] at h7
    rw [e, h7, List.getElem?_append_left h6]
    exact List.getElem?_eq_getElem h6
/-- One more sector of a record is written. -/
theorem J.push {t : List UInt8} (ht : t.length ≤ 300) (h : J size E old new part k Poss O) (hs : Seen size old new part Poss sn) (hn : part.length < (sectors E (old ++ new).length t).length) (hpt : part = ((sectors E (old ++ new).length t).map pad).take part.length)
    (hfit : stop 1 0 (old ++ new) + (sectors E (old ++ new).length t).length ≤ size) {s : List UInt8} (hsx : s = pad (sectors E (old ++ new).length t)[part.length])
    (hp : ∀ x c, Poss' x c ↔ Poss x c ∨ (x = stop 1 0 (old ++ new) + part.length ∧ c = s)) {sn' : Nat → List UInt8} (hsn : ∀ x, sn' x = if x = stop 1 0 (old ++ new) + part.length then s else sn x) :
    part ++ [s] = ((sectors E (old ++ new).length t).map pad).take (part ++ [s]).length ∧
    (part.length + 1 < (sectors E (old ++ new).length t).length → J size E old new (part ++ [s]) k Poss' O ∧ Seen size old new (part ++ [s]) Poss' sn') ∧
    (part.length + 1 = (sectors E (old ++ new).length t).length → J size E old (new ++ [⟨E, t⟩]) [] k Poss' O ∧ Seen size old (new ++ [⟨E, t⟩]) [] Poss' sn') := by
  have hst : stop 1 0 (old ++ new) = stop 1 0 old + (flat old.length new).length := by rw [stop_append, Nat.zero_add, stop_flat]
  have hl : (old ++ new).length = old.length + new.length := List.length_append
  have hlo := stop_le 1 0 old
  have hlen : s.length = 64 := by
    rw [hsx]
    exact pad_len (sectors_form (List.getElem_mem hn)).1
  have e1 : part ++ [s] = ((sectors E (old ++ new).length t).map pad).take (part ++ [s]).length := by
    rw [List.length_append, List.length_singleton, List.take_succ_eq_append_getElem (by simpa using hn), ← hpt, List.getElem_map, hsx]
  have hposs : ∀ x c, 1 ≤ x → x < size → Poss' x c → c = O x ∨ (stop 1 0 old ≤ x ∧ (flat old.length new ++ (part ++ [s]))[x - stop 1 0 old]? = some c) := fun x c h1 h2 h3 => by
    rcases (hp x c).1 h3 with h4 | ⟨h4, h5⟩
    · rcases h.poss x c h1 h2 h4 with h6 | ⟨h6, h7⟩
      · exact Or.inl h6
      · refine Or.inr ⟨h6, ?_⟩
        rw [← List.append_assoc, List.getElem?_append_left (List.getElem?_eq_some_iff.1 h7).1]; exact h7
    · refine Or.inr ⟨by omega, ?_⟩
      rw [← List.append_assoc, List.getElem?_append_right (by rw [List.length_append]; omega), h5, List.length_append, show x - stop 1 0 old - ((flat old.length new).length + part.length) = 0 by omega]
      rfl
  have hsure : ∀ x c, stop 1 0 old ≤ x → x < stop 1 0 (old ++ new.take k) → Poss' x c → (flat old.length new ++ (part ++ [s]))[x - stop 1 0 old]? = some c := fun x c h1 h2 h3 => by
    rcases (hp x c).1 h3 with h4 | ⟨h4, h5⟩
    · have h6 := h.sure x c h1 h2 h4
      rw [← List.append_assoc, List.getElem?_append_left (List.getElem?_eq_some_iff.1 h6).1]; exact h6
    · have := stop_take old new k
      omega
  have his : ∀ j u, (flat old.length new ++ (part ++ [s]))[j]? = some u → sn' (stop 1 0 old + j) = u := fun j u h1 => by
    rw [hsn]
    by_cases hj : j < (flat old.length new ++ part).length
    · rw [← List.append_assoc, List.getElem?_append_left hj] at h1
      rw [if_neg (by rw [List.length_append] at hj; omega)]
      exact hs.is j u h1
    · have hj2 := (List.getElem?_eq_some_iff.1 h1).1
      rw [← List.append_assoc] at h1
      simp only [List.length_append, List.length_singleton] at hj hj2
      rw [List.getElem?_append_right (by rw [List.length_append]; omega), List.length_append, show j - ((flat old.length new).length + part.length) = 0 by omega] at h1
      rw [if_pos (by omega)]
      exact Option.some.inj h1
  have hin : ∀ x, 1 ≤ x → x < size → Poss' x (sn' x) := fun x h1 h2 => by
    rw [hp, hsn]
    split
    · rename_i h3; exact Or.inr ⟨h3, rfl⟩
    · exact Or.inl (hs.in_ x h1 h2)
  have hsl : ∀ x, (sn' x).length = 64 := fun x => by
    rw [hsn]; split
    · exact hlen
    · exact hs.len x
  have hz : ∀ x, ¬ (1 ≤ x ∧ x < size) → sn' x = List.replicate 64 0 := fun x hx => by
    rw [hsn, if_neg (by omega)]; exact hs.zero x hx
  refine ⟨e1, fun hlt => ⟨⟨h.base, h.oldE, h.fine, h.newE, h.i64, h.top, h.fit, Or.inr ⟨t, ht, by simpa using hlt, e1, hfit⟩, hposs, hsure, h.kle, h.rest, h.small⟩, his, hin, hsl, hz⟩, fun heq => ?_⟩
  have e2 : flat old.length (new ++ [⟨E, t⟩]) ++ [] = flat old.length new ++ (part ++ [s]) := by
    rw [List.append_nil, flat_append, e1, List.take_of_length_le (by rw [List.length_map, @List.length_append _ part [s], List.length_singleton]; omega), hl]
    show _ ++ (_ ++ []) = _
    rw [List.append_nil]
  have hst2 : stop 1 0 (old ++ (new ++ [⟨E, t⟩])) = stop 1 0 (old ++ new) + (sectors E (old ++ new).length t).length := by
    rw [← List.append_assoc, stop_append, Nat.zero_add]; rfl
  have hlast := h.lastE
  refine ⟨⟨h.base, h.oldE, ?_, fun r hr => ?_, h.i64, h.top, by omega, Or.inl rfl, by rw [e2]; exact hposs, ?_, by have := h.kle; rw [List.length_append]; omega, fun hk => h.rest hk, h.small⟩, by rw [e2]; exact his, hin, hsl, hz⟩
  · rw [← List.append_assoc, Fine.append]
    exact ⟨h.fine, hlast, h.i64, ht, True.intro⟩
  · rcases List.mem_append.1 hr with hr | hr
    · exact h.newE r hr
    · rw [List.mem_singleton.1 hr]
  · rw [e2, List.take_append_of_le_length h.kle]; exact hsure
/-- A log that is begun anew: its one record. -/
theorem J.reset {t : List UInt8} (h : J size E old new part k Poss O) (hs : Seen size old new part Poss sn) (ht : t.length ≤ 300) (hE : I64 (E + 1)) (h2 : 2 ≤ size) (h1 : (sectors (E + 1) 0 t).length = 1) {s : List UInt8} (hsx : s = pad ((sectors (E + 1) 0 t).getD 0 []))
    (hp : ∀ x c, Poss' x c → (x = 1 ∧ c = s) ∨ (x ≠ 1 ∧ 1 ≤ x ∧ x < size ∧ c = sn x)) : J size (E + 1) [] [⟨E + 1, t⟩] [] 1 Poss' sn := by
  have hfl : flat 0 [(⟨E + 1, t⟩ : Rcd)] = [s] := by
    show (sectors (E + 1) 0 t).map pad ++ [] = [s]
    obtain ⟨x, hx⟩ := List.length_eq_one_iff.1 h1
    rw [hx] at hsx ⊢
    rw [hsx]; rfl
  have hfr := h.fine.le
  have hle := h.lastE
  refine ⟨True.intro, fun x => ?_, ⟨by show 0 ≤ E + 1; omega, hE, ht, True.intro⟩, (fun r hr => by rw [List.mem_singleton.1 hr]), hE, (by show 0 ≤ E + 1; omega), ?_, Or.inl rfl, fun x c _ _ h5 => ?_, fun x c _ h4 h5 => ?_, Nat.le_refl _, (fun hk => by cases hk), h.small⟩
  · by_cases hx : 1 ≤ x ∧ x < size
    · rcases h.poss x (sn x) hx.1 hx.2 (hs.in_ x hx.1 hx.2) with h5 | ⟨_, h5⟩
      · rw [h5]; exact (h.oldE x).mono (by omega)
      · obtain ⟨q', h6, h7, _⟩ := h.sec h5
        exact h7.old h.i64 h6 (by omega)
    · rw [hs.zero x hx]; exact old_zero _
  · show 1 + (sectors (E + 1) (0 : Nat) t).length ≤ size
    have : (sectors (E + 1) ((0 : Nat) : Int) t).length = 1 := h1
    omega
  · rcases hp x c h5 with ⟨h6, h7⟩ | ⟨_, _, _, h7⟩
    · right
      subst h6
      refine ⟨Nat.le_refl _, ?_⟩
      show (flat 0 [(⟨E + 1, t⟩ : Rcd)] ++ [])[1 - 1]? = some c
      rw [hfl, h7]; rfl
    · exact Or.inl h7
  · have : stop 1 0 ([] ++ [(⟨E + 1, t⟩ : Rcd)].take 1) = 2 := by
      show 1 + (sectors (E + 1) ((0 : Nat) : Int) t).length = 2
      have : (sectors (E + 1) ((0 : Nat) : Int) t).length = 1 := h1
      omega
    rw [this] at h4
    rcases hp x c h5 with ⟨h6, h7⟩ | ⟨h6, h7, _⟩
    · subst h6
      show (flat 0 [(⟨E + 1, t⟩ : Rcd)] ++ [])[1 - 1]? = some c
      rw [hfl, h7]; rfl
    · omega
end
end WalM
end
end Go.Proofs.YtpeaefeoogcepaaDoor
