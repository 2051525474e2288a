/- What is kept by a rule of the pool: plain lists. -/
import Derived.Test.YtnolidjjeknmmaaPoolClkM
namespace Go.Proofs.Ytnolidjjeknmmaa

structure PoolM.Good (size : Nat) (refs : List Int) (h : List Bool) (k : List Int) : Prop where
  len : h.length = refs.length
  le : k.length ≤ size
  sub : ∀ x, x ∈ k → x ∈ refs
  nodup : k.Nodup
  last : 0 < refs.length → refs.getD (refs.length - 1) 0 ∈ k

theorem PoolM.getD_mem {l : List Int} {i : Nat} (h : i < l.length) : l.getD i 0 ∈ l := by
  rw [List.getD_eq_getElem?_getD, List.getElem?_eq_getElem h]
  exact List.getElem_mem h

structure PoolM.Inv (refs : List Int) (n : Nat) (k : List Int) : Prop where
  sub : ∀ x, x ∈ k → x ∈ refs
  nodup : k.Nodup
  last : 0 < n → refs.getD (n - 1) 0 ∈ k
theorem PoolM.inv_nil (refs : List Int) : PoolM.Inv refs 0 [] := ⟨fun x h => by simp at h, List.nodup_nil, fun h => by omega⟩
theorem PoolM.snoc_nodup {l : List Int} {x : Int} (h : l.Nodup) (hx : x ∉ l) : (l ++ [x]).Nodup := by
  rw [List.nodup_append]
  refine ⟨h, by simp, fun a ha b hb e => ?_⟩
  simp at hb
  subst hb; subst e
  exact hx ha
theorem PoolM.kept_inv {pick : List Int → Nat → Nat} {seen : List Int → Int → List Int} (hr : PoolM.Rule pick seen) (size : Nat) (refs : List Int) : ∀ n, n ≤ refs.length → PoolM.Inv refs n (PoolM.kept pick seen size refs n)
  | 0, _ => PoolM.inv_nil refs
  | n + 1, hn => by
    have ih := PoolM.kept_inv hr size refs n (by omega)
    have hm := PoolM.getD_mem (l := refs) (i := n) (by omega)
    have hp : PoolM.kept pick seen size refs (n + 1) = PoolM.step pick seen size (PoolM.kept pick seen size refs n) n (refs.getD n 0) := rfl
    generalize PoolM.kept pick seen size refs n = l at *
    rw [hp]
    unfold PoolM.step
    generalize hx : refs.getD n 0 = x at *
    have hn1 : n + 1 - 1 = n := rfl
    split
    · rename_i h
      have hpm := hr.seen l x h
      exact ⟨fun y hy => ih.sub y (hpm.mem_iff.1 hy), hpm.nodup_iff.2 ih.nodup, fun _ => by rw [hn1, hx]; exact hpm.mem_iff.2 h⟩
    · rename_i h
      have hc : ∀ m : List Int, (∀ y, y ∈ m → y ∈ l) → m.Nodup → PoolM.Inv refs (n + 1) (m ++ [x]) := fun m h1 h2 =>
        ⟨fun y hy => by
          rcases List.mem_append.1 hy with h3 | h3
          · exact ih.sub y (h1 y h3)
          · simp at h3; subst h3; exact hm, PoolM.snoc_nodup h2 (fun h3 => h (h1 x h3)), fun _ => by rw [hn1, hx]; simp⟩
      split
      · exact hc _ (fun y hy => List.mem_of_mem_eraseIdx hy) (ih.nodup.sublist (List.eraseIdx_sublist _ _))
      · exact hc _ (fun y hy => hy) ih.nodup
theorem PoolM.set_nodup {l : List Int} {x : Int} (h : l.Nodup) (hx : x ∉ l) (i : Nat) : (l.set i x).Nodup := by
  rw [List.nodup_iff_pairwise_ne] at *
  rw [List.pairwise_iff_getElem] at *
  intro a b ha hb hab
  rw [List.length_set] at ha hb
  rw [List.getElem_set, List.getElem_set]
  split
  · rw [if_neg (by omega)]
    exact fun e => hx (e ▸ List.getElem_mem _)
  · split
    · exact fun e => hx (e ▸ List.getElem_mem _)
    · exact h a b ha hb hab
theorem PoolM.clk_inv {size : Nat} (h1 : 1 ≤ size) (refs : List Int) : ∀ n, n ≤ refs.length → PoolM.Inv refs n (PoolM.clkAt size refs n).fr
  | 0, _ => PoolM.inv_nil refs
  | n + 1, hn => by
    have ih := PoolM.clk_inv h1 refs n (by omega)
    have hok := PoolM.clk_ok h1 refs n
    have hm := PoolM.getD_mem (l := refs) (i := n) (by omega)
    have hp : PoolM.clkAt size refs (n + 1) = PoolM.clk size (PoolM.clkAt size refs n) (refs.getD n 0) := rfl
    generalize PoolM.clkAt size refs n = s at *
    rw [hp]
    unfold PoolM.clk
    generalize hx : refs.getD n 0 = x at *
    have hn1 : n + 1 - 1 = n := rfl
    split
    · rename_i h
      exact ⟨ih.sub, ih.nodup, fun _ => by rw [hn1, hx]; exact h⟩
    · rename_i h
      split
      · refine ⟨fun y hy => ?_, PoolM.snoc_nodup ih.nodup h, fun _ => by rw [hn1, hx]; simp⟩
        rcases List.mem_append.1 hy with h3 | h3
        · exact ih.sub y h3
        · simp at h3; subst h3; exact hm
      · have hs := (PoolM.sweep_ok h1 (s.us.count true) s.us s.hand hok.hand).1
        have hl := hok.le
        refine ⟨fun y hy => ?_, PoolM.set_nodup ih.nodup h _, fun _ => ?_⟩
        · rcases List.mem_or_eq_of_mem_set hy with h3 | h3
          · exact ih.sub y h3
          · subst h3; exact hm
        · rw [hn1, hx]
          exact List.mem_set (by unfold PoolM.swept; omega) _
theorem PoolM.good_rule {pick : List Int → Nat → Nat} {seen : List Int → Int → List Int} (hr : PoolM.Rule pick seen) (size : Nat) (h1 : 1 ≤ size) (refs : List Int) :
    PoolM.Good size refs (PoolM.hits pick seen size refs refs.length) (PoolM.kept pick seen size refs refs.length) :=
  have h := PoolM.kept_inv hr size refs refs.length (Nat.le_refl _)
  ⟨PoolM.hits_len _ _ _ _ _, PoolM.kept_len hr size h1 refs _, h.sub, h.nodup, h.last⟩
theorem PoolM.good_clk (size : Nat) (h1 : 1 ≤ size) (refs : List Int) : PoolM.Good size refs (PoolM.clkHits size refs refs.length) (PoolM.clkAt size refs refs.length).fr :=
  have h := PoolM.clk_inv h1 refs refs.length (Nat.le_refl _)
  ⟨PoolM.clkHits_len _ _ _, (PoolM.clk_ok h1 refs _).le, h.sub, h.nodup, h.last⟩
end Go.Proofs.Ytnolidjjeknmmaa
