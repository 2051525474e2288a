/- lock.Ask: an item's list turned, and the table as it is read then. -/
import Derived.Test.YtjbmkhalmmahkaaLkAskP
import Derived.Test.YtjbmkhalmmahkaaInsK
namespace Go.Proofs.Ytjbmkhalmmahkaa
open Go.RowKit Go.Lib

theorem row_front {w : World} {base e size g cap n : Nat} {xs : List Value} (h : w.ownsRow base e size (.slice (some ⟨g, 0, none⟩) n cap) n xs) {m : Nat} (hm : m ≤ n) : w.ownsRow base e size (.slice (some ⟨g, 0, none⟩) m cap) m (xs.take (m * size)) := by
  obtain ⟨h1, h2⟩ := h
  have hle : m * size ≤ n * size := Nat.mul_le_mul_right _ hm
  refine ⟨by rw [List.length_take]; omega, ?_⟩
  rcases h2 with ⟨h0, _⟩ | ⟨g', cap', cur, hv, hg, hh, hn, hcap, hsz, htake⟩
  · cases h0
  · cases hv
    refine .inr ⟨g, cap, cur, rfl, hg, hh, by omega, hcap, hsz, ?_⟩
    rw [← htake, List.take_take, Nat.min_eq_left hle]

theorem lkVals_take (l : List LkM) : ∀ i, (lkVals l).take (i * 2) = lkVals (l.take i) := by
  induction l with
  | nil => intro i; simp [lkVals]
  | cons a r ih =>
    intro i
    cases i with
    | zero => simp [lkVals]
    | succ i =>
      have := ih i
      rw [show (i + 1) * 2 = i * 2 + 2 by omega]
      simp only [lkVals, List.flatMap_cons, List.cons_append, List.nil_append, List.take_succ_cons] at this ⊢
      rw [this]
theorem lkVals_drop (l : List LkM) : ∀ i, (lkVals l).drop (i * 2) = lkVals (l.drop i) := by
  induction l with
  | nil => intro i; simp [lkVals]
  | cons a r ih =>
    intro i
    cases i with
    | zero => simp [lkVals]
    | succ i =>
      have := ih i
      rw [show (i + 1) * 2 = i * 2 + 2 by omega]
      simp only [lkVals, List.flatMap_cons, List.cons_append, List.nil_append, List.drop_succ_cons] at this ⊢
      rw [this]
theorem lkVals_mid (l : List LkM) (a : LkM) (i : Nat) : lkVals (l.take i ++ a :: l.drop i) = (lkVals l).take (i * 2) ++ [.int .i64 a.tx, .int .i64 a.mode] ++ (lkVals l).drop (i * 2) := by
  rw [lkVals_take, lkVals_drop, lkVals_append, List.append_assoc]
  rfl
namespace LkM
section
variable {W W' : World} {B g p : Nat} {tv : Value} {t : List LiM} {v : Nat → Value} {l : List LkM}
theorem lks_moved {ao : Option Addr} {n c : Nat} {q : List LkM} (h : LksIn W B ao q) (hb : ∀ b, (Value.slice ao n c).ownBlock = some b → W'.heap[b]? = W.heap[b]?) (hs : W.heap.size ≤ W'.heap.size) : LksIn W' B ao q :=
  h.imp id fun ⟨b, off, e1, e2, e3, e4⟩ => by
    have hb := hb b (by rw [e1]; rfl)
    exact ⟨b, off, e1, e2, by omega, fun k hk => ⟨(World.cell?_of_block (a := ⟨b, off + k * 2, none⟩) hb).trans (e4 k hk).1, (World.cell?_of_block (a := ⟨b, off + k * 2 + 1, none⟩) hb).trans (e4 k hk).2⟩⟩
theorem give_fin (hT : OwnT W B tv t v) (h50 : t.length < 50) (hg : tv.ownBlock = some g) (hp : p < t.length) (hG : GiveP W B g (p * 3) (v (2 * p)) l W') : LisIn W' B (some ⟨g, 0, none⟩) (t.set p { t[p] with held := l }) := by
  obtain ⟨ha, hc, qa, qc, f1, f2, hi⟩ := hT.item (by omega) hp hg
  rw [Nat.zero_add] at hi
  obtain ⟨⟨na, nc, hown, hcell, _⟩, hcells, _, hheap, hbel⟩ := hG
  have hsz : W.heap.size ≤ W'.heap.size := (hbel 0 (Nat.zero_le _) (Nat.zero_le _) (Nat.zero_le _)).size
  have hne : ∀ i, i < 100 → ∀ b, (v i).ownBlock = some b → b ≠ g := fun i hi b hb e => by
    rcases row_ne (hT.fam.own i hi) hT.tab (by decide) with h | h
    · rw [h] at hb; cases hb
    · exact h (by rw [hb, hg, e])
  have hrow : ∀ i, i < 100 → i ≠ 2 * p → ∀ b, (v i).ownBlock = some b → W'.heap[b]? = W.heap[b]? := fun i hi hip b hb =>
    hheap b ((hT.fam.own i hi).lt b hb).2 (hne i hi b hb) (fun e => hT.fam.apart i (2 * p) hi (by omega) hip b hb e)
  obtain ⟨_, _, e1, _, hin, hn0, hnc⟩ := LksIn.own hown
  injection e1 with e1 _ e2
  subst e1 e2
  refine lis_set hT h50 hg hp (y := { t[p] with held := l }) (ha := na) (hc := nc) (qa := qa) (qc := qc) ?_ (fun i hi => hcells i (by omega)) (fun i hi h1 _ => hrow i hi h1) hsz
  rw [Nat.zero_add]
  exact ⟨(hcells _ (by omega)).trans hi.c0, hcell, (hcells _ (by omega)).trans hi.c2, hin, lks_moved hi.queue (fun b hb => hrow (2 * p + 1) (by omega) (by omega) b (by rw [f2]; exact hb)) hsz, hnc, hi.qcap, hn0, hi.qnil⟩
theorem que_fin (hT : OwnT W B tv t v) (h50 : t.length < 50) (hg : tv.ownBlock = some g) (hp : p < t.length) (hG : GiveP W B g (p * 3 + 1) (v (2 * p + 1)) l W') : LisIn W' B (some ⟨g, 0, none⟩) (t.set p { t[p] with queue := l }) := by
  obtain ⟨ha, hc, qa, qc, f1, f2, hi⟩ := hT.item (by omega) hp hg
  rw [Nat.zero_add] at hi
  obtain ⟨⟨na, nc, hown, hcell, _⟩, hcells, _, hheap, hbel⟩ := hG
  have hsz : W.heap.size ≤ W'.heap.size := (hbel 0 (Nat.zero_le _) (Nat.zero_le _) (Nat.zero_le _)).size
  have hne : ∀ i, i < 100 → ∀ b, (v i).ownBlock = some b → b ≠ g := fun i hi b hb e => by
    rcases row_ne (hT.fam.own i hi) hT.tab (by decide) with h | h
    · rw [h] at hb; cases hb
    · exact h (by rw [hb, hg, e])
  have hrow : ∀ i, i < 100 → i ≠ 2 * p + 1 → ∀ b, (v i).ownBlock = some b → W'.heap[b]? = W.heap[b]? := fun i hi hip b hb =>
    hheap b ((hT.fam.own i hi).lt b hb).2 (hne i hi b hb) (fun e => hT.fam.apart i (2 * p + 1) hi (by omega) hip b hb e)
  obtain ⟨_, _, e1, _, hin, hn0, hnc⟩ := LksIn.own hown
  injection e1 with e1 _ e2
  subst e1 e2
  refine lis_set hT h50 hg hp (y := { t[p] with queue := l }) (ha := ha) (hc := hc) (qa := na) (qc := nc) ?_ (fun i hi => hcells i (by omega)) (fun i hi _ h1 => hrow i hi h1) hsz
  rw [Nat.zero_add]
  exact ⟨(hcells _ (by omega)).trans hi.c0, (hcells _ (by omega)).trans hi.c1, hcell, lks_moved hi.held (fun b hb => hrow (2 * p) (by omega) (by omega) b (by rw [f1]; exact hb)) hsz, hin, hi.hcap, hnc, hi.hnil, hn0⟩
end
/-- The list is laid anew. -/
theorem GiveP.again {w w9 w10 w11 : World} {B g o q gg gcap : Nat} {hv : Value} {l l' : List LkM} (h : GiveP w B g o hv l w9) (hb : Below w9.heap.size w9 w10) (hg : g < w.heap.size) (hvB : ∀ b, hv.ownBlock = some b → B ≤ b) (c1 : ∃ u, w10.cell? ⟨g, o + 1, none⟩ = some u)
    (h11 : w11.ownsRow B 28 2 (.slice (some ⟨gg, 0, none⟩) l'.length gcap) l'.length (lkVals l')) (hgrow : w10.grownBy w11 (some q)) (hq : hv.ownBlock = some q ∨ w.heap.size ≤ q) (hgg : gg = q ∨ w.heap.size ≤ gg) (hqg : q ≠ g) :
    GiveP w B g o hv l' (w11.setCell ⟨g, o + 1, none⟩ (.slice (some ⟨gg, 0, none⟩) l'.length gcap)) := by
  obtain ⟨_, hcells, hfroz, hheap, hbel⟩ := h
  have hs9 : w.heap.size ≤ w9.heap.size := (hbel 0 (Nat.zero_le _) (Nat.zero_le _) (Nat.zero_le _)).size
  have hg9 : g < w9.heap.size := by omega
  have hg10 : w10.heap[g]? = w9.heap[g]? := hb.block g hg9
  have hg11 : w11.heap[g]? = w10.heap[g]? := hgrow.block g (Nat.lt_of_lt_of_le hg9 hb.size) (fun e => by injection e with e; exact hqg e.symm)
  obtain ⟨u, c1⟩ := c1
  have c11 : w11.cell? ⟨g, o + 1, none⟩ = some u := (World.cell?_of_block (a := ⟨g, o + 1, none⟩) hg11).trans c1
  have hggne : gg ≠ g := by
    rcases hgg with rfl | h
    · exact hqg
    · omega
  refine ⟨⟨some ⟨gg, 0, none⟩, gcap, ownsRow_setCell_other h11 (by intro e; injection e with e; exact hggne e) _, World.cell?_setCell_same _ _ _ c11, ?_⟩, fun i hi => ?_, fun i => ?_, fun b h1 h2 h3 => ?_, fun B0 h1 h2 h3 => ?_⟩
  · rcases hgg with rfl | h
    · rcases hq with h | h
      · exact Or.inl h.symm
      · exact Or.inr ⟨gg, rfl, h⟩
    · exact Or.inr ⟨gg, rfl, h⟩
  · exact (World.cell?_setCell_other w11 ⟨g, o + 1, none⟩ ⟨g, i, none⟩ _ (by intro e; injection e with _ e; exact hi e.symm)).trans ((World.cell?_of_block (a := ⟨g, i, none⟩) (hg11.trans hg10)).trans (hcells i hi))
  · rw [World.frozen?_setCell]
    exact (World.frozen?_of_block (a := ⟨g, i, none⟩) (hg11.trans hg10)).trans (hfroz i)
  · have hbq : b ≠ q := by
      rcases hq with h | h
      · rintro rfl; exact h3 h
      · omega
    exact (Below.heap_setCell _ _ _ _ (by show b ≠ g; exact h2)).trans ((hgrow.block b (by have := hb.size; omega) (fun e => by injection e with e; exact hbq e)).trans ((hb.block b (by omega)).trans (hheap b h1 h2 h3)))
  · refine (((hbel B0 h1 h2 h3).trans (hb.mono (by omega))).grown hgrow (by have := hb.size; omega) (fun k hk => ?_)).setCell (by show B0 ≤ g; exact h1) _
    injection hk with hk
    subst hk
    rcases hq with h | h
    · exact Nat.le_trans h2 (hvB _ h)
    · omega
/-- How far who has something already goes ahead. -/
theorem ahead_le (held : List LkM) : ∀ q : List LkM, ahead held q ≤ q.length
  | [] => Nat.le_refl _
  | a :: r => by
    unfold ahead
    split
    · simpa using ahead_le held r
    · simp
theorem ahead_eq {held : List LkM} : ∀ {q : List LkM} {n : Nat}, n ≤ q.length → (∀ j (hj : j < q.length), j < n → has held q[j].tx = true) → (∀ (hn : n < q.length), has held q[n].tx = false) → ahead held q = n
  | [], n, h, _, _ => by
    simp only [List.length_nil] at h
    obtain rfl : n = 0 := by omega
    rfl
  | a :: r, 0, _, _, h2 => by
    have := h2 (by simp)
    simp only [List.getElem_cons_zero] at this
    unfold ahead
    rw [if_neg (by rw [this]; simp)]
  | a :: r, n + 1, h, h1, h2 => by
    have := h1 0 (by simp) (by omega)
    simp only [List.getElem_cons_zero] at this
    unfold ahead
    rw [if_pos this, ahead_eq (n := n) (by simpa using h) (fun j hj hjn => by have := h1 (j + 1) (by simp; omega) (by omega); rwa [List.getElem_cons_succ] at this) (fun hn => by have := h2 (by simp; omega); rwa [List.getElem_cons_succ] at this)]
/-- The last region of Ask: the lock laid, put in, and the row's slice stored. -/
structure InsS (w0 V8 : World) (B g p QL Xb : Nat) (hv : Value) (l : List LkM) (tx mode : Int) (b14 b15 b18 : Bool) (v14 v15 : Value) (w : World) : Prop where
  pre : b15 = false → Below w0.heap.size w0 w
  lit : b14 = true → b15 = false → ∃ b1, v14 = .slice (some ⟨b1, 0, none⟩) 1 1 ∧ Blk w b1 28 [.int .i64 tx, .int .i64 mode] ∧ w0.heap.size ≤ b1
  ptr : b18 = false → w.cell? ⟨Xb, 0, none⟩ = some (.pointer (some ⟨g, p * 3, none⟩))
  mid : b15 = true → b18 = false → ∃ gg gcap, v15 = .slice (some ⟨gg, 0, none⟩) (QL + 1) gcap ∧ (∃ u, w.cell? ⟨g, p * 3 + 2, none⟩ = some u) ∧ w.frozen? ⟨g, p * 3 + 2, none⟩ = false ∧ GiveP V8 B g (p * 3 + 1) hv l (w.setCell ⟨g, p * 3 + 2, none⟩ (.slice (some ⟨gg, 0, none⟩) (QL + 1) gcap))
  fin : b18 = true → GiveP V8 B g (p * 3 + 1) hv l w
section
variable {w0 V8 w w' : World} {B g p QL Xb : Nat} {hv v14 v15 : Value} {l : List LkM} {tx mode : Int}
theorem InsS.lay (h : InsS w0 V8 B g p QL Xb hv l tx mode false false false v14 v15 w) (hX : Xb < w0.heap.size) : InsS w0 V8 B g p QL Xb hv l tx mode true false false (.slice (some ⟨w.heap.size, 0, none⟩) 1 1) v15 (w.alloc (.cells #[.int .i64 tx, .int .i64 mode] 28)) :=
  ⟨fun _ => (h.pre rfl).alloc (h.pre rfl).size _, fun _ _ => ⟨_, rfl, Blk.new _ _ _, (h.pre rfl).size⟩, fun _ => (World.cell?_alloc_lt _ _ _ (Nat.lt_of_lt_of_le hX (h.pre rfl).size)).trans (h.ptr rfl), (fun h1 => by cases h1), (fun h1 => by cases h1)⟩
theorem InsS.call {gg gcap : Nat} (h1 : w'.cell? ⟨Xb, 0, none⟩ = some (.pointer (some ⟨g, p * 3, none⟩))) (h2 : ∃ u, w'.cell? ⟨g, p * 3 + 2, none⟩ = some u) (h3 : w'.frozen? ⟨g, p * 3 + 2, none⟩ = false) (h4 : GiveP V8 B g (p * 3 + 1) hv l (w'.setCell ⟨g, p * 3 + 2, none⟩ (.slice (some ⟨gg, 0, none⟩) (QL + 1) gcap))) : InsS w0 V8 B g p QL Xb hv l tx mode true true false v14 (.slice (some ⟨gg, 0, none⟩) (QL + 1) gcap) w' :=
  ⟨(fun h1 => by cases h1), (fun _ h1 => by cases h1), fun _ => h1, fun _ _ => ⟨gg, gcap, rfl, h2, h3, h4⟩, (fun h1 => by cases h1)⟩
theorem InsS.put (h : GiveP V8 B g (p * 3 + 1) hv l w) : InsS w0 V8 B g p QL Xb hv l tx mode true true true v14 v15 w := ⟨(fun h1 => by cases h1), (fun _ h1 => by cases h1), (fun h1 => by cases h1), (fun _ h1 => by cases h1), fun _ => h⟩
end
end LkM
end Go.Proofs.Ytjbmkhalmmahkaa
