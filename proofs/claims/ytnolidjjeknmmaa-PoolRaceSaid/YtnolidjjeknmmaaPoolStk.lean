/- MATTSON over plain lists: what a small pool has by Lru a great one has, too. -/
import Derived.Test.YtnolidjjeknmmaaPoolBel
namespace Go.Proofs.Ytnolidjjeknmmaa

theorem PoolM.touch_right {X K : List Int} {x : Int} (hX : x ∉ X) : PoolM.touch (X ++ K) x = X ++ PoolM.touch K x := by
  unfold PoolM.touch
  have h : (X ++ K).findIdx (fun y => x == y) = X.length + K.findIdx (fun y => x == y) := by
    rw [List.findIdx_append, if_neg]
    · omega
    · intro hh
      have := List.findIdx_getElem (w := hh)
      simp at this
      exact hX (this ▸ List.getElem_mem _)
  rw [h, List.eraseIdx_append_of_length_le (by omega), Nat.add_sub_cancel_left, List.append_assoc]
theorem PoolM.touch_left {X K : List Int} {x : Int} (hX : x ∈ X) : PoolM.touch (X ++ K) x = X.eraseIdx (X.findIdx (fun y => x == y)) ++ (K ++ [x]) := by
  unfold PoolM.touch
  have hlt : X.findIdx (fun y => x == y) < X.length := List.findIdx_lt_length_of_exists ⟨x, hX, by simp⟩
  have h : (X ++ K).findIdx (fun y => x == y) = X.findIdx (fun y => x == y) := by
    rw [List.findIdx_append, if_pos hlt]
  rw [h, List.eraseIdx_append_of_lt_length hlt, List.append_assoc]

/-- A part of the great pool, and behind it the small one. -/
structure PoolM.Part (a : Nat) (Ka Kb X : List Int) : Prop where
  eq : Kb = X ++ Ka
  full : Ka.length < a → X = []
theorem PoolM.lru_stack {a b : Nat} (h1 : 1 ≤ a) (hab : a ≤ b) (refs : List Int) : ∀ n, n ≤ refs.length → ∃ X, PoolM.Part a (PoolM.kept PoolM.oldest PoolM.touch a refs n) (PoolM.kept PoolM.oldest PoolM.touch b refs n) X
  | 0, _ => ⟨[], rfl, fun _ => rfl⟩
  | n + 1, hn => by
    obtain ⟨X, he, hf⟩ := PoolM.lru_stack h1 hab refs n (by omega)
    have hla := PoolM.kept_len PoolM.rule_lru a h1 refs n
    have hlb := PoolM.kept_len PoolM.rule_lru b (by omega) refs n
    have hnd := (PoolM.kept_inv PoolM.rule_lru b refs n (by omega)).nodup
    have pa : PoolM.kept PoolM.oldest PoolM.touch a refs (n + 1) = PoolM.step PoolM.oldest PoolM.touch a (PoolM.kept PoolM.oldest PoolM.touch a refs n) n (refs.getD n 0) := rfl
    have pb : PoolM.kept PoolM.oldest PoolM.touch b refs (n + 1) = PoolM.step PoolM.oldest PoolM.touch b (PoolM.kept PoolM.oldest PoolM.touch b refs n) n (refs.getD n 0) := rfl
    rw [pa, pb]
    generalize PoolM.kept PoolM.oldest PoolM.touch a refs n = K at *
    generalize PoolM.kept PoolM.oldest PoolM.touch b refs n = Kb at *
    generalize refs.getD n 0 = x at *
    clear pa pb
    subst he
    by_cases hxa : x ∈ K
    · have hxX : x ∉ X := fun h => by
        rw [List.nodup_append] at hnd
        exact hnd.2.2 x h x hxa rfl
      refine ⟨X, ?_, ?_⟩
      · unfold PoolM.step
        rw [if_pos hxa, if_pos (List.mem_append_right _ hxa), PoolM.touch_right hxX]
      · unfold PoolM.step
        rw [if_pos hxa, (PoolM.touch_perm K x hxa).length_eq]
        exact hf
    · have hstep : PoolM.step PoolM.oldest PoolM.touch a K n x = (if K.length = a then K.eraseIdx 0 else K) ++ [x] := by
        unfold PoolM.step; rw [if_neg hxa]; rfl
      rw [hstep]
      by_cases hfull : K.length = a
      · obtain ⟨y, K', rfl⟩ : ∃ y K', K = y :: K' := by
          cases K with
          | nil => simp at hfull; omega
          | cons y K' => exact ⟨y, K', rfl⟩
        rw [if_pos hfull, List.eraseIdx_zero, List.tail_cons]
        by_cases hxX : x ∈ X
        · refine ⟨X.eraseIdx (X.findIdx (fun y => x == y)) ++ [y], ?_, fun h => ?_⟩
          · unfold PoolM.step
            rw [if_pos (List.mem_append_left _ hxX), PoolM.touch_left hxX]
            simp
          · simp only [List.length_append, List.length_cons, List.length_nil] at h hfull; omega
        · have hxb : x ∉ X ++ y :: K' := fun h => by
            rcases List.mem_append.1 h with h2 | h2
            · exact hxX h2
            · exact hxa h2
          have hsb : PoolM.step PoolM.oldest PoolM.touch b (X ++ y :: K') n x = (if (X ++ y :: K').length = b then (X ++ y :: K').eraseIdx 0 else X ++ y :: K') ++ [x] := by
            unfold PoolM.step; rw [if_neg hxb]; rfl
          rw [hsb]
          by_cases hbf : (X ++ y :: K').length = b
          · rw [if_pos hbf, List.eraseIdx_zero]
            cases X with
            | nil => exact ⟨[], by simp, fun _ => rfl⟩
            | cons z X' =>
              refine ⟨X' ++ [y], by simp, fun h => ?_⟩
              simp only [List.length_append, List.length_cons, List.length_nil] at h hfull; omega
          · rw [if_neg hbf]
            refine ⟨X ++ [y], by simp, fun h => ?_⟩
            simp only [List.length_append, List.length_cons, List.length_nil] at h hfull; omega
      · have hX := hf (by omega)
        subst hX
        have hb : PoolM.step PoolM.oldest PoolM.touch b ([] ++ K) n x = K ++ [x] := by
          unfold PoolM.step
          rw [List.nil_append, if_neg hxa, if_neg (by omega)]
        rw [if_neg hfull, hb]
        exact ⟨[], by simp, fun _ => rfl⟩
theorem PoolM.lru_hit {a b : Nat} (h1 : 1 ≤ a) (hab : a ≤ b) (refs : List Int) (n : Nat) (hn : n ≤ refs.length) (x : Int) (h : x ∈ PoolM.kept PoolM.oldest PoolM.touch a refs n) : x ∈ PoolM.kept PoolM.oldest PoolM.touch b refs n := by
  obtain ⟨X, he, _⟩ := PoolM.lru_stack h1 hab refs n hn
  rw [he]
  exact List.mem_append_right _ h
end Go.Proofs.Ytnolidjjeknmmaa
