/- The memory of run.Kinds. -/
import Derived.Test.YtnnkejolfhhmlaaGreatRunKindsM
import Derived.Test.YtnnkejolfhhmlaaGreatSlDelF
namespace Go.Proofs.YtnnkejolfhhmlaaGreat
open Go.RowKit Go.Lib

def natVals (l : List Nat) : List Value := l.map (fun t : Nat => Value.int .i64 (t : Int))
theorem natVals_eq (l : List Nat) : natVals l = intVals (l.map (fun t : Nat => (t : Int))) := by simp [natVals, intVals]
theorem natVals_len (l : List Nat) : (natVals l).length = l.length := by simp [natVals]
theorem natVals_get {l : List Nat} {k : Nat} (h : k < l.length) : (natVals l)[k]? = some (.int .i64 (l[k] : Int)) := by simp [natVals, h]
theorem natVals_append (l m : List Nat) : natVals (l ++ m) = natVals l ++ natVals m := by simp [natVals]

def KindsM.vF (vw vr : Nat → Value) : Nat → Value := fun i => if i < 20 then vw i else vr (i - 20)
def KindsM.KF (st : KSt) : Nat → List Nat := fun i => if i < 20 then st.wr i else st.rd (i - 20)

structure KindsM.KW (w : World) (N : Nat) (st : KSt) (vw vr : Nat → Value) (wr : World) : Prop where
  lt : w.heap.size < N
  b0 : Blk wr w.heap.size 34 [.bool false, .bool false, .bool false]
  b1 : Blk wr N 34 [.bool st.rc, .bool st.cc, .bool st.sc]
  b2 : Blk wr (N + 1) 70 (Tab 12 fun i => .int .i64 (st.en i))
  b3 : Blk wr (N + 2) 71 (Tab 20 vw)
  b4 : Blk wr (N + 3) 72 (Tab 12 vr)
  fam : Fam wr w.heap.size 32 3 1 (KindsM.vF vw vr) (fun i => (KindsM.KF st i).length) (fun i => natVals (KindsM.KF st i))
  below : Below w.heap.size w wr

section
variable {w wr : World} {N : Nat} {st : KSt} {vw vr : Nat → Value}

theorem KindsM.KW.alloc (h : KindsM.KW w N st vw vr wr) (o : Obj) : KindsM.KW w N st vw vr (wr.alloc o) :=
  ⟨h.lt, h.b0.alloc o, h.b1.alloc o, h.b2.alloc o, h.b3.alloc o, h.b4.alloc o, h.fam.alloc o, h.below.alloc h.below.size o⟩
theorem KindsM.KW.drew (h : KindsM.KW w N st vw vr wr) : KindsM.KW w N st vw vr wr.drew :=
  ⟨h.lt, h.b0.drew, h.b1.drew, h.b2.drew, h.b3.drew, h.b4.drew, h.fam.drew, h.below.drew⟩
theorem KindsM.KW.rc (h : KindsM.KW w N st vw vr wr) (b : Bool) : KindsM.KW w N { st with rc := b } vw vr (wr.setCell ⟨N, 0, none⟩ (.bool b)) :=
  ⟨h.lt, h.b0.other (by have := h.lt; show _ ≠ N; omega) _, h.b1.set 0 _, h.b2.other (by show _ ≠ N; omega) _, h.b3.other (by show _ ≠ N; omega) _, h.b4.other (by show _ ≠ N; omega) _,
    h.fam.setCell h.b1 (by decide) _ _, h.below.setCell (by have := h.lt; show _ ≤ N; omega) _⟩
theorem KindsM.KW.cc (h : KindsM.KW w N st vw vr wr) (b : Bool) : KindsM.KW w N { st with cc := b } vw vr (wr.setCell ⟨N, 1, none⟩ (.bool b)) :=
  ⟨h.lt, h.b0.other (by have := h.lt; show _ ≠ N; omega) _, h.b1.set 1 _, h.b2.other (by show _ ≠ N; omega) _, h.b3.other (by show _ ≠ N; omega) _, h.b4.other (by show _ ≠ N; omega) _,
    h.fam.setCell h.b1 (by decide) _ _, h.below.setCell (by have := h.lt; show _ ≤ N; omega) _⟩
theorem KindsM.KW.sc (h : KindsM.KW w N st vw vr wr) (b : Bool) : KindsM.KW w N { st with sc := b } vw vr (wr.setCell ⟨N, 2, none⟩ (.bool b)) :=
  ⟨h.lt, h.b0.other (by have := h.lt; show _ ≠ N; omega) _, h.b1.set 2 _, h.b2.other (by show _ ≠ N; omega) _, h.b3.other (by show _ ≠ N; omega) _, h.b4.other (by show _ ≠ N; omega) _,
    h.fam.setCell h.b1 (by decide) _ _, h.below.setCell (by have := h.lt; show _ ≤ N; omega) _⟩
theorem KindsM.KW.sccc (h : KindsM.KW w N st vw vr wr) (s c : Bool) : KindsM.KW w N { st with sc := s, cc := c } vw vr ((wr.setCell ⟨N, 2, none⟩ (.bool s)).setCell ⟨N, 1, none⟩ (.bool c)) := (h.sc s).cc c
theorem KindsM.KW.en (h : KindsM.KW w N st vw vr wr) (x : Nat) (v : Int) : KindsM.KW w N { st with en := upd st.en x v } vw vr (wr.setCell ⟨N + 1, x, none⟩ (.int .i64 v)) := by
  refine ⟨h.lt, h.b0.other (by have := h.lt; show _ ≠ N + 1; omega) _, h.b1.other (by show _ ≠ N + 1; omega) _, ?_, h.b3.other (by show _ ≠ N + 1; omega) _, h.b4.other (by show _ ≠ N + 1; omega) _,
    h.fam.setCell h.b2 (by decide) _ _, h.below.setCell (by have := h.lt; show _ ≤ N + 1; omega) _⟩
  have := h.b2.tabSet x (.int .i64 v)
  rwa [show upd (fun i => Value.int .i64 (st.en i)) x (.int .i64 v) = (fun i => Value.int .i64 (upd st.en x v i)) from by funext i; simp only [upd]; split <;> rfl] at this

theorem KindsM.vF_w (vw vr : Nat → Value) {k : Nat} (hk : k < 20) (v : Value) : upd (KindsM.vF vw vr) k v = KindsM.vF (upd vw k v) vr := by
  funext i
  simp only [upd, KindsM.vF]
  by_cases e : i = k
  · subst e; simp [hk]
  · simp [e]
theorem KindsM.vF_r (vw vr : Nat → Value) (k : Nat) (v : Value) : upd (KindsM.vF vw vr) (20 + k) v = KindsM.vF vw (upd vr k v) := by
  funext i
  simp only [upd, KindsM.vF]
  by_cases e : i = 20 + k
  · subst e; have h20 : ¬ 20 + k < 20 := by omega
    simp [h20]
  · by_cases h : i < 20
    · simp [e, h]
    · have : ¬ i - 20 = k := by omega
      simp [e, h, this]
theorem KindsM.KF_w (st : KSt) {k : Nat} (hk : k < 20) (l : List Nat) : upd (KindsM.KF st) k l = KindsM.KF { st with wr := upd st.wr k l } := by
  funext i
  simp only [upd, KindsM.KF]
  by_cases e : i = k
  · subst e; simp [hk]
  · simp [e]
theorem KindsM.KF_r (st : KSt) (k : Nat) (l : List Nat) : upd (KindsM.KF st) (20 + k) l = KindsM.KF { st with rd := upd st.rd k l } := by
  funext i
  simp only [upd, KindsM.KF]
  by_cases e : i = 20 + k
  · subst e; have h20 : ¬ 20 + k < 20 := by omega
    simp [h20]
  · by_cases h : i < 20
    · simp [e, h]
    · have : ¬ i - 20 = k := by omega
      simp [e, h, this]
theorem upd_comp {α β : Type} (f : Nat → α) (g : α → β) (k : Nat) (x : α) : (fun i => g (upd f k x i)) = upd (fun i => g (f i)) k (g x) := by
  funext i; simp only [upd]; split <;> rfl

/-- What an append, or a cut, of row k leaves, ahead of the store: the blocks. -/
theorem KindsM.KW.blocks (h : KindsM.KW w N st vw vr wr) {w1 : World} {k : Nat} (hk : k < 32) (hg : wr.grownBy w1 (KindsM.vF vw vr k).ownBlock) :
    Blk w1 w.heap.size 34 [.bool false, .bool false, .bool false] ∧ Blk w1 N 34 [.bool st.rc, .bool st.cc, .bool st.sc] ∧
    Blk w1 (N + 1) 70 (Tab 12 fun i => .int .i64 (st.en i)) ∧ Blk w1 (N + 2) 71 (Tab 20 vw) ∧ Blk w1 (N + 3) 72 (Tab 12 vr) :=
  ⟨h.b0.grown hg (h.b0.ne_own (h.fam.own k hk) (by decide)), h.b1.grown hg (h.b1.ne_own (h.fam.own k hk) (by decide)), h.b2.grown hg (h.b2.ne_own (h.fam.own k hk) (by decide)),
    h.b3.grown hg (h.b3.ne_own (h.fam.own k hk) (by decide)), h.b4.grown hg (h.b4.ne_own (h.fam.own k hk) (by decide))⟩
theorem KindsM.KW.rowW (h : KindsM.KW w N st vw vr wr) {w1 : World} {k : Nat} (hk : k < 20) {v' : Value} {l : List Nat} (ho : w1.ownsRow w.heap.size 3 1 v' l.length (natVals l)) (hg : wr.grownBy w1 (vw k).ownBlock)
    (hat : v'.ownBlock = (vw k).ownBlock ∨ v'.ownBlock = some wr.heap.size) : KindsM.KW w N { st with wr := upd st.wr k l } (upd vw k v') vr (w1.setCell ⟨N + 2, k, none⟩ v') := by
  have e : KindsM.vF vw vr k = vw k := by simp [KindsM.vF, hk]
  have hg' : wr.grownBy w1 (KindsM.vF vw vr k).ownBlock := by rw [e]; exact hg
  obtain ⟨c0, c1, c2, c3, c4⟩ := h.blocks (by omega) hg'
  have hf := h.fam.append (k := k) (by omega) ho hg' (by rw [e]; exact hat)
  rw [KindsM.vF_w _ _ hk, ← upd_comp (KindsM.KF st) List.length, ← upd_comp (KindsM.KF st) natVals, KindsM.KF_w _ hk] at hf
  refine ⟨h.lt, c0.other (by have := h.lt; show _ ≠ N + 2; omega) _, c1.other (by show _ ≠ N + 2; omega) _, c2.other (by show _ ≠ N + 2; omega) _, c3.tabSet k v', c4.other (by show _ ≠ N + 2; omega) _,
    hf.setCell c3 (by decide) _ _, (h.below.grown hg' h.below.size (fun b hb => ((h.fam.own k (by omega)).lt b hb).1)).setCell (by have := h.lt; show _ ≤ N + 2; omega) _⟩
theorem KindsM.KW.rowR (h : KindsM.KW w N st vw vr wr) {w1 : World} {k : Nat} (hk : k < 12) {v' : Value} {l : List Nat} (ho : w1.ownsRow w.heap.size 3 1 v' l.length (natVals l)) (hg : wr.grownBy w1 (vr k).ownBlock)
    (hat : v'.ownBlock = (vr k).ownBlock ∨ v'.ownBlock = some wr.heap.size) : KindsM.KW w N { st with rd := upd st.rd k l } vw (upd vr k v') (w1.setCell ⟨N + 3, k, none⟩ v') := by
  have h20 : ¬ 20 + k < 20 := by omega
  have e : KindsM.vF vw vr (20 + k) = vr k := by simp [KindsM.vF, h20]
  have hg' : wr.grownBy w1 (KindsM.vF vw vr (20 + k)).ownBlock := by rw [e]; exact hg
  obtain ⟨c0, c1, c2, c3, c4⟩ := h.blocks (by omega) hg'
  have hf := h.fam.append (k := 20 + k) (by omega) ho hg' (by rw [e]; exact hat)
  rw [KindsM.vF_r, ← upd_comp (KindsM.KF st) List.length, ← upd_comp (KindsM.KF st) natVals, KindsM.KF_r] at hf
  refine ⟨h.lt, c0.other (by have := h.lt; show _ ≠ N + 3; omega) _, c1.other (by show _ ≠ N + 3; omega) _, c2.other (by show _ ≠ N + 3; omega) _, c3.other (by show _ ≠ N + 3; omega) _, c4.tabSet k v',
    hf.setCell c4 (by decide) _ _, (h.below.grown hg' h.below.size (fun b hb => ((h.fam.own (20 + k) (by omega)).lt b hb).1)).setCell (by have := h.lt; show _ ≤ N + 3; omega) _⟩
theorem KindsM.KW.rowR' (h : KindsM.KW w N st vw vr wr) {w1 : World} {k : Nat} (hk : k < 12) {g cap : Nat} {t : Nat} (ho : w1.ownsRow w.heap.size 3 1 (.slice (some ⟨g, 0, none⟩) ((st.rd k).length + 1) cap) ((st.rd k).length + 1) (natVals (st.rd k) ++ [.int .i64 (t : Int)])) (hg : wr.grownBy w1 (vr k).ownBlock)
    (hat : (vr k).ownBlock = some g ∨ g = wr.heap.size) : KindsM.KW w N { st with rd := upd st.rd k (st.rd k ++ [t]) } vw (upd vr k (.slice (some ⟨g, 0, none⟩) ((st.rd k).length + 1) cap)) (w1.setCell ⟨N + 3, k, none⟩ (.slice (some ⟨g, 0, none⟩) ((st.rd k).length + 1) cap)) :=
  h.rowR hk (l := st.rd k ++ [t]) (by rw [natVals_append, List.length_append]; exact ho) hg (by
    rcases hat with h | h
    · exact Or.inl h.symm
    · exact Or.inr (by rw [h]; rfl))
theorem KindsM.KW.rowW' (h : KindsM.KW w N st vw vr wr) {w1 : World} {k : Nat} (hk : k < 20) {g cap : Nat} {t : Nat} (ho : w1.ownsRow w.heap.size 3 1 (.slice (some ⟨g, 0, none⟩) ((st.wr k).length + 1) cap) ((st.wr k).length + 1) (natVals (st.wr k) ++ [.int .i64 (t : Int)])) (hg : wr.grownBy w1 (vw k).ownBlock)
    (hat : (vw k).ownBlock = some g ∨ g = wr.heap.size) : KindsM.KW w N { st with wr := upd st.wr k (st.wr k ++ [t]) } (upd vw k (.slice (some ⟨g, 0, none⟩) ((st.wr k).length + 1) cap)) vr (w1.setCell ⟨N + 2, k, none⟩ (.slice (some ⟨g, 0, none⟩) ((st.wr k).length + 1) cap)) :=
  h.rowW hk (l := st.wr k ++ [t]) (by rw [natVals_append, List.length_append]; exact ho) hg (by
    rcases hat with h | h
    · exact Or.inl h.symm
    · exact Or.inr (by rw [h]; rfl))
theorem KindsM.KW.ownW (h : KindsM.KW w N st vw vr wr) {k : Nat} (hk : k < 20) : wr.ownsRow w.heap.size 3 1 (vw k) (st.wr k).length (natVals (st.wr k)) := by
  have := h.fam.own k (by omega)
  simpa [KindsM.vF, KindsM.KF, hk] using this
theorem KindsM.KW.ownR (h : KindsM.KW w N st vw vr wr) {k : Nat} (hk : k < 12) : wr.ownsRow w.heap.size 3 1 (vr k) (st.rd k).length (natVals (st.rd k)) := by
  have := h.fam.own (20 + k) (by omega)
  have h20 : ¬ 20 + k < 20 := by omega
  simpa [KindsM.vF, KindsM.KF, h20] using this
end

theorem KindsM.KW.congr {w wr : World} {N : Nat} {st st' : KSt} {vw vr : Nat → Value} (h : KindsM.KW w N st vw vr wr) (e1 : st'.en = st.en) (e2 : ∀ k, k < 20 → st'.wr k = st.wr k) (e3 : st'.rd = st.rd) (e4 : st'.rc = st.rc) (e5 : st'.cc = st.cc) (e6 : st'.sc = st.sc) : KindsM.KW w N st' vw vr wr := by
  have e : KindsM.KF st' = KindsM.KF st := by
    funext i
    unfold KindsM.KF
    split
    · rename_i hi; exact e2 i hi
    · rw [e3]
  exact ⟨h.lt, h.b0, by rw [e4, e5, e6]; exact h.b1, by rw [e1]; exact h.b2, h.b3, h.b4, by rw [e]; exact h.fam, h.below⟩
/-- An Abort of x, as far as item j. -/
def KindsM.abort (st : KSt) (x j : Nat) : KSt := { st with en := upd st.en x 4, wr := fun i => if i < j then (st.wr i).filter (fun t => t != x) else st.wr i }
theorem KindsM.abort_zero (st : KSt) (x : Nat) : KindsM.abort st x 0 = { st with en := upd st.en x 4 } := by simp [KindsM.abort]
theorem KindsM.abort_succ (st : KSt) (x j : Nat) : { KindsM.abort st x j with wr := upd (KindsM.abort st x j).wr j ((st.wr j).filter (fun t => t != x)) } = KindsM.abort st x (j + 1) := by
  have : upd (KindsM.abort st x j).wr j ((st.wr j).filter (fun t => t != x)) = (KindsM.abort st x (j + 1)).wr := by
    funext i
    simp only [upd, KindsM.abort]
    by_cases e : i = j
    · subst e; simp
    · by_cases h : i < j
      · simp [e, h, show i < j + 1 by omega]
      · simp [e, h, show ¬ i < j + 1 by omega]
  rw [this]; rfl
theorem natFilter (l : List Nat) (x : Nat) : (l.map (fun t : Nat => (t : Int))).filter (fun z => !(z == (x : Int))) = (l.filter (fun t => t != x)).map (fun t : Nat => (t : Int)) := by
  induction l with
  | nil => rfl
  | cons a l ih =>
    rw [List.map_cons, List.filter_cons, List.filter_cons, ih]
    by_cases h : a = x
    · subst h; simp
    · have h1 : ((a : Int) == (x : Int)) = false := by simp; omega
      have h2 : (a != x) = true := by simp [h]
      rw [h1, h2]; simp

/-- Row of naturals: its slice value. -/
theorem natRow_at {w : World} {base n : Nat} {v : Value} {l : List Nat} (h : w.ownsRow base 3 1 v n (natVals l)) :
    ∃ ao cap, v = .slice ao l.length cap ∧ (∀ k (hk : k < l.length), ∃ g, ao = some ⟨g, 0, none⟩ ∧ g < w.heap.size ∧ w.cell? ⟨g, k, none⟩ = some (.int .i64 (l[k] : Int))) ∧ l.length ≤ cap ∧ (ao = none → cap = 0) := by
  rw [natVals_eq] at h
  obtain ⟨ao, cap, h1, h2, h3, h4, h5⟩ := IntsAt.own h
  rw [List.length_map] at h1 h5
  refine ⟨ao, cap, h1, fun k hk => ?_, h5, h4⟩
  subst h1
  rcases h.2 with ⟨h1, hz⟩ | ⟨g, cap', cur, h1, h6, h7, _⟩
  · simp only [Value.slice.injEq] at h1; omega
  · simp only [Value.slice.injEq] at h1
    obtain ⟨rfl, hn, rfl⟩ := h1
    subst hn
    refine ⟨g, rfl, (Array.getElem?_eq_some_iff.1 h7).1, ?_⟩
    rw [h.cellAt k (by omega), intVals_get (by simpa using hk)]; simp

theorem closure_tx (b : Nat) (x : Int) (W : World) (T : Nat) (C : List Value) (h : Blk W b T (.int .i64 x :: C)) : Tells 27 #[.pointer (some ⟨b, 0, none⟩)] (fun z => z == x) W := by
  intro z
  have hc := h.cell (i := 0) (v := .int .i64 x) rfl
  go_enter Tryz.func27, Tryz.ntmps27
  go_wp2_with fail
  go_ret
  exact ⟨rfl, rfl⟩
end Go.Proofs.YtnnkejolfhhmlaaGreat
