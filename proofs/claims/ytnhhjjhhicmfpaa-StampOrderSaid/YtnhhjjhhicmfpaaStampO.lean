/- Play by stamps without skipping: what commits is like the same, the older one first: plain. -/
import Derived.Test.YtnhhjjhhicmfpaaTurnM
namespace Go.Proofs.Ytnhhjjhhicmfpaa
open Go.RowKit Go.Lib
def StampM.seq (k : Nat) : List Int := (List.range k).map (fun n : Nat => (n : Int))
namespace StampM
open RunM
/-- What holds while stamp.Play goes on without skipping. -/
structure SI (st : SSt) (rest : List OpM) (k : Nat) : Prop where
  bad : ∀ o ∈ st.run, RunM.bad o = 0
  len : st.run.length ≤ k
  rd : ∀ o ∈ st.run, o.kind = 1 → o.tx + 1 ≤ st.rd o.item.toNat
  wr : ∀ o ∈ st.run, o.kind = 2 → o.tx + 1 ≤ st.wr o.item.toNat
  once : st.run.Pairwise fun x y => x.tx = y.tx → x.kind < 3
  over : ∀ x ∈ st.run, 3 ≤ x.kind → st.dead x.tx.toNat = true ∨ ∀ o ∈ rest, o.tx ≠ x.tx
  ahead : st.run.Pairwise fun x y => clash x y = true → x.tx < y.tx
theorem pw_snoc {α : Type} {R : α → α → Prop} {l : List α} {o : α} (h : l.Pairwise R) (h2 : ∀ x ∈ l, R x o) : (l ++ [o]).Pairwise R := by
  rw [List.pairwise_append]
  exact ⟨h, List.pairwise_singleton _ _, fun x hx y hy => by rw [List.mem_singleton.1 hy]; exact h2 x hx⟩
theorem clash_what {a b : OpM} (h : clash a b = true) : a.tx ≠ b.tx ∧ a.kind < 3 ∧ b.kind < 3 ∧ a.item = b.item ∧ (a.kind = 2 ∨ b.kind = 2) := by
  unfold clash at h
  simp only [Bool.and_eq_true, Bool.not_eq_true', beq_eq_false_iff_ne, decide_eq_true_eq, beq_iff_eq, Bool.or_eq_true] at h
  obtain ⟨⟨⟨⟨h1, h2⟩, h3⟩, h4⟩, h5⟩ := h
  exact ⟨h1, h2, h3, h4, h5⟩
theorem SI.step {st : SSt} {o : OpM} {r : List OpM} {k : Nat} (h : SI st (o :: r) k) (hb : RunM.bad o = 0) (hr : 3 ≤ o.kind → ∀ x ∈ r, x.tx ≠ o.tx) : SI (StampM.step false st o) r (k + 1) := by
  obtain ⟨b1, b2, b3, b4, b5, b6, b7⟩ := bad_zero hb
  have hover : ∀ {st' : SSt} (x : OpM), x ∈ st.run → 3 ≤ x.kind → (∀ t, st.dead t = true → st'.dead t = true) → st'.dead x.tx.toNat = true ∨ ∀ y ∈ r, y.tx ≠ x.tx := by
    intro st' x hx hk hd
    rcases h.over x hx hk with h1 | h1
    · exact Or.inl (hd _ h1)
    · exact Or.inr fun y hy => h1 y (by simp [hy])
  have honce : st.dead o.tx.toNat ≠ true → ∀ x ∈ st.run, x.tx = o.tx → x.kind < 3 := by
    intro hd x hx e
    apply Classical.byContradiction
    intro hk
    rcases h.over x hx (by omega) with h1 | h1
    · rw [e] at h1; exact hd h1
    · exact h1 o (by simp) e.symm
  unfold StampM.step
  split
  · exact ⟨h.bad, Nat.le_succ_of_le h.len, h.rd, h.wr, h.once, fun x hx hk => hover x hx hk (fun _ h => h), h.ahead⟩
  · rename_i hd
    split
    · rename_i h3
      refine ⟨fun x hx => ?_, by simp; exact h.len, fun x hx hk => ?_, fun x hx hk => ?_, pw_snoc h.once (honce hd), fun x hx hk => ?_, pw_snoc h.ahead fun x _ hc => ?_⟩
      · rcases List.mem_append.1 hx with h1 | h1
        · exact h.bad x h1
        · rw [List.mem_singleton.1 h1]; exact hb
      · rcases List.mem_append.1 hx with h1 | h1
        · exact h.rd x h1 hk
        · rw [List.mem_singleton.1 h1] at hk; omega
      · rcases List.mem_append.1 hx with h1 | h1
        · exact h.wr x h1 hk
        · rw [List.mem_singleton.1 h1] at hk; omega
      · rcases List.mem_append.1 hx with h1 | h1
        · exact hover x h1 hk (fun _ h => h)
        · rw [List.mem_singleton.1 h1]; exact Or.inr (hr h3)
      · have := (clash_what hc).2.2.1; omega
    · rename_i h3
      split
      · rename_i h4
        refine ⟨fun x hx => ?_, by simp; exact h.len, fun x hx hk => ?_, fun x hx hk => ?_, pw_snoc h.once (honce hd), fun x hx hk => ?_, pw_snoc h.ahead fun x hx hc => ?_⟩
        · rcases List.mem_append.1 hx with h1 | h1
          · exact h.bad x h1
          · rw [List.mem_singleton.1 h1]; exact hb
        · show x.tx + 1 ≤ upd st.rd o.item.toNat (max (st.rd o.item.toNat) (o.tx + 1)) x.item.toNat
          unfold upd
          rcases List.mem_append.1 hx with h1 | h1
          · have := h.rd x h1 hk
            split
            · rename_i e; rw [e] at this; omega
            · exact this
          · rw [List.mem_singleton.1 h1, if_pos rfl]; omega
        · rcases List.mem_append.1 hx with h1 | h1
          · exact h.wr x h1 hk
          · rw [List.mem_singleton.1 h1] at hk; omega
        · rcases List.mem_append.1 hx with h1 | h1
          · exact hover x h1 hk (fun _ h => h)
          · rw [List.mem_singleton.1 h1] at hk; omega
        · obtain ⟨c1, c2, c3, c4, c5⟩ := clash_what hc
          have := h.wr x hx (by omega)
          rw [c4] at this
          omega
      · rename_i h4
        split
        · rename_i h5
          refine ⟨fun x hx => ?_, by simp; exact h.len, fun x hx hk => ?_, fun x hx hk => ?_, pw_snoc h.once (honce hd), fun x hx hk => ?_, pw_snoc h.ahead fun x hx hc => ?_⟩
          · rcases List.mem_append.1 hx with h1 | h1
            · exact h.bad x h1
            · rw [List.mem_singleton.1 h1]; exact hb
          · rcases List.mem_append.1 hx with h1 | h1
            · exact h.rd x h1 hk
            · rw [List.mem_singleton.1 h1] at hk; omega
          · show x.tx + 1 ≤ upd st.wr o.item.toNat (o.tx + 1) x.item.toNat
            unfold upd
            rcases List.mem_append.1 hx with h1 | h1
            · have := h.wr x h1 hk
              split
              · rename_i e; rw [e] at this; omega
              · exact this
            · rw [List.mem_singleton.1 h1, if_pos rfl]; omega
          · rcases List.mem_append.1 hx with h1 | h1
            · exact hover x h1 hk (fun _ h => h)
            · rw [List.mem_singleton.1 h1] at hk; omega
          · obtain ⟨c1, c2, c3, c4, c5⟩ := clash_what hc
            have bx := bad_zero (h.bad x hx)
            by_cases e : x.kind = 2
            · have := h.wr x hx e
              rw [c4] at this
              omega
            · have := h.rd x hx (by omega)
              rw [c4] at this
              omega
        · rename_i h5
          rw [if_neg (by simp)]
          refine ⟨fun x hx => ?_, by simp; exact h.len, fun x hx hk => ?_, fun x hx hk => ?_, pw_snoc h.once (honce hd), fun x hx hk => ?_, pw_snoc h.ahead fun x _ hc => ?_⟩
          · rcases List.mem_append.1 hx with h1 | h1
            · exact h.bad x h1
            · rw [List.mem_singleton.1 h1]
              unfold RunM.bad
              simp; omega
          · rcases List.mem_append.1 hx with h1 | h1
            · exact h.rd x h1 hk
            · rw [List.mem_singleton.1 h1] at hk; simp at hk
          · rcases List.mem_append.1 hx with h1 | h1
            · exact h.wr x h1 hk
            · rw [List.mem_singleton.1 h1] at hk; simp at hk
          · rcases List.mem_append.1 hx with h1 | h1
            · refine hover x h1 hk (fun t h => ?_)
              show upd st.dead _ _ t = true
              unfold upd; split
              · rfl
              · exact h
            · rw [List.mem_singleton.1 h1]; left
              show upd st.dead _ _ _ = true
              simp [upd]
          · have := (clash_what hc).2.2.1; simp at this
theorem SI.run : ∀ (l : List OpM) (st : SSt) (k : Nat), SI st l k → (∀ o ∈ l, RunM.bad o = 0) → l.Pairwise (fun x y => x.tx = y.tx → x.kind < 3) → SI (l.foldl (StampM.step false) st) [] (k + l.length)
  | [], _, _, h, _, _ => h
  | o :: r, st, k, h, hb, hp => by
    obtain ⟨h1, h2⟩ := List.pairwise_cons.1 hp
    rw [List.foldl_cons]
    have := SI.run r _ _ (h.step (hb o (by simp)) (fun h3 x hx e => by have := h1 x hx e.symm; omega)) (fun x hx => hb x (by simp [hx])) h2
    rwa [show k + 1 + r.length = k + (o :: r).length by simp; omega] at this
theorem SI.all {l : List OpM} (h : check l = 0) : SI (StampM.run false l) [] l.length := by
  obtain ⟨h1, h2, h3⟩ := (check_iff l).1 h
  have := SI.run l StampM.start 0 ⟨by simp [start], by simp [start], by simp [start], by simp [start], List.Pairwise.nil, by simp [start], List.Pairwise.nil⟩ h2 h3
  rwa [Nat.zero_add] at this
theorem check_run {l : List OpM} (h : check l = 0) : check (StampM.run false l).run = 0 := by
  have hi := SI.all h
  rw [check_iff]
  exact ⟨Nat.le_trans hi.len ((check_iff l).1 h).1, hi.bad, hi.once⟩
theorem seq_sub {n : Nat} {a b : Int} (h : a < b) (ha : 0 ≤ a) (hb : b < n) : [a, b].Sublist (StampM.seq n) := by
  induction n with
  | zero => omega
  | succ n ih =>
    have e : StampM.seq (n + 1) = StampM.seq n ++ [(n : Int)] := by simp [StampM.seq, List.range_succ]
    rw [e, sub2_append]
    by_cases hn : b < n
    · exact Or.inl (ih hn)
    · right; right
      have e2 : b = (n : Int) := by omega
      refine ⟨?_, by simp [e2]⟩
      unfold StampM.seq
      rw [List.mem_map]
      exact ⟨a.toNat, by rw [List.mem_range]; omega, by omega⟩
theorem seq_nodup (n : Nat) : (StampM.seq n).Nodup := by
  unfold StampM.seq
  refine List.pairwise_map.2 ((List.nodup_range).imp ?_)
  intro a b h e
  exact h (by omega)
theorem mem_seq {n : Nat} {a : Int} (h0 : 0 ≤ a) (h : a < n) : a ∈ StampM.seq n := by
  unfold StampM.seq
  rw [List.mem_map]
  exact ⟨a.toNat, by rw [List.mem_range]; omega, by omega⟩
/-- Older ones go ahead of younger ones. -/
theorem order_law {l : List OpM} (h : check l = 0) :
    check (StampM.run false l).run = 0 ∧ likeOk (ofCom (StampM.run false l).run) (StampM.inTurn (ofCom (StampM.run false l).run) (StampM.seq 12)) = 0 ∧ like (ofCom (StampM.run false l).run) (StampM.inTurn (ofCom (StampM.run false l).run) (StampM.seq 12)) = true := by
  have hc := check_run h
  have hi := SI.all h
  have hm := ofCom_check hc
  have hb := ((check_iff _).1 hm).2.1
  obtain ⟨h1, h2⟩ := like_turn hm (seq_nodup 12) (fun o ho => mem_seq (bad_zero (hb o ho)).1 (bad_zero (hb o ho)).2.1)
  refine ⟨hc, h1, h2.2 fun a b hab hcl => ?_⟩
  have h3 : [a, b].Sublist (StampM.run false l).run := hab.trans List.filter_sublist
  have h4 := hi.ahead.sublist h3
  have h5 := (List.pairwise_cons.1 h4).1 b (by simp) hcl
  exact seq_sub h5 (bad_zero (hb a (hab.subset (by simp)))).1 (bad_zero (hb b (hab.subset (by simp)))).2.1
end StampM
end Go.Proofs.Ytnhhjjhhicmfpaa
