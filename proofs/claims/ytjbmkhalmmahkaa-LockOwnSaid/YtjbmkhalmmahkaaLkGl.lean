/- lock.Drop: how many it wakes. -/
import Derived.Test.YtjbmkhalmmahkaaLkChk
namespace Go.Proofs.Ytjbmkhalmmahkaa
namespace LkM
theorem serve_len : ∀ (f : Nat) (held queue : List LkM) (g : List Int), (serve f held queue g).2.2.length ≤ g.length + queue.length
  | 0, held, queue, g => Nat.le_add_right _ _
  | f + 1, held, [], g => Nat.le_refl _
  | f + 1, held, a :: r, g => by
    rw [show serve (f + 1) held (a :: r) g = if can held a = true then serve f (give held a) r (g ++ [a.tx]) else (held, a :: r, g) from rfl]
    split
    · have := serve_len f (give held a) r (g ++ [a.tx])
      simp only [List.length_append, List.length_cons, List.length_nil] at this ⊢
      omega
    · exact Nat.le_add_right _ _
theorem dropGo_len (tx : Int) : ∀ (r out : List LiM) (g : List Int), (∀ x ∈ r, x.queue.length ≤ 12) → (dropGo tx r out g).2.length ≤ g.length + 12 * r.length
  | [], out, g, _ => by simp [dropGo]
  | x :: r, out, g, h => by
    have h1 := serve_len (without x.queue tx).length (without x.held tx) (without x.queue tx) g
    have h2 : (without x.queue tx).length ≤ x.queue.length := List.length_filter_le _ _
    have h3 := h x List.mem_cons_self
    have h4 : (dropItem x tx g).2.length ≤ g.length + 12 := by
      show (serve _ _ _ g).2.2.length ≤ _
      omega
    unfold dropGo
    have := dropGo_len tx r (if (dropItem x tx g).1.held = [] then out else out ++ [(dropItem x tx g).1]) (dropItem x tx g).2 (fun y hy => h y (List.mem_cons_of_mem _ hy))
    rw [List.length_cons]
    omega
theorem drop_len {t : List LiM} (h : Good t) (tx : Int) : (drop t tx).2.length ≤ 1000 := by
  have h1 := dropGo_len tx t [] [] (fun x hx => okl_len (h.ok x hx).queue)
  have h2 := h.len
  unfold drop
  simp only [List.length_nil] at h1
  omega
end LkM
end Go.Proofs.Ytjbmkhalmmahkaa
