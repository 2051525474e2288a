/- slices.Equal over texts. -/
import Derived.Test.YtpeaefeoogcepaaDoorInts
import Derived.Deep.QuietTactic
import Derived.BigQuiet
namespace Go.Proofs.YtpeaefeoogcepaaDoor
open Go.RowKit Go.Lib

/-- A row of texts. -/
def StrsAt (w : World) (ao : Option Addr) (l : List ByteArray) : Prop :=
  l = [] ∨ ∃ b off, ao = some ⟨b, off, none⟩ ∧ b < w.heap.size ∧ ∀ (k : Nat) (hk : k < l.length), w.cell? ⟨b, off + k, none⟩ = some (.string l[k])
theorem StrsAt.below {w w' : World} {ao : Option Addr} {l : List ByteArray} {B : Nat} (h : StrsAt w ao l) (hb : Below B w w') (hB : w.heap.size ≤ B) : StrsAt w' ao l := by
  rcases h with h | ⟨b, off, rfl, h1, h2⟩
  · exact Or.inl h
  · exact Or.inr ⟨b, off, rfl, Nat.lt_of_lt_of_le h1 hb.size, fun k hk => (World.cell?_of_block (hb.block b (by omega))).trans (h2 k hk)⟩
theorem bytes_beq (a b : ByteArray) : (a.toList == b.toList) = decide (a = b) := by
  by_cases h : a = b
  · subst h; simp
  · have : a.toList ≠ b.toList := fun e => h (by
      rw [ByteArray.toList_eq, ByteArray.toList_eq] at e
      exact ByteArray.ext (Array.toList_inj.1 e))
    simp [h, this]
set_option maxRecDepth 20000 in
set_option maxHeartbeats 2000000 in
theorem equalStrs_any (l m : List ByteArray) (ao bo : Option Addr) (cap cap' : Nat) (w : World) (h : StrsAt w ao l) (h' : StrsAt w bo m) (hn : l.length ≤ 9000000000000000000) (hm : m.length ≤ 9000000000000000000) :
    Calls Tryd.prog 9 #[.slice ao l.length cap, .slice bo m.length cap'] w fun e w' => e = .returned (.bool (decide (l = m))) ∧ ∃ n, w' = w.drewN n := by
  have H := box h; have H' := box h'
  clear h h'
  by_cases hlen : l.length = m.length
  case neg =>
    have q0 : ((l.length : Int) == (m.length : Int)) = false := by simpa using fun e : (l.length : Int) = m.length => hlen (by omega)
    have q1 : ((l.length : Int) != (m.length : Int)) = true := by simpa using fun e : (l.length : Int) = m.length => hlen (by omega)
    have q2 : decide (l = m) = false := decide_eq_false fun e => hlen (by rw [e])
    go_enter Tryd.func9, Tryd.ntmps9
    go_wp2_with fail
    go_ret
    exact ⟨by rw [q2]; rfl, 0, rfl⟩
  have q0 : ((l.length : Int) == (m.length : Int)) = true := by simp [hlen]
  have q1 : ((l.length : Int) != (m.length : Int)) = false := by simp [hlen]
  have HNo : Box (∀ (k : Nat) (hk : k < l.length) (hk' : k < m.length), l[k] ≠ m[k] → decide (l = m) = false) := ⟨fun k hk hk' hne => decide_eq_false fun e => hne (by subst e; rfl)⟩
  have HYes : Box ((∀ (k : Nat) (hk : k < l.length) (hk' : k < m.length), l[k] = m[k]) → decide (l = m) = true) := ⟨fun hall => decide_eq_true (List.ext_getElem hlen hall)⟩
  generalize decide (l = m) = R at *
  go_enter Tryd.func9, Tryd.ntmps9
  go_wp2_with fail
  go_loopw [13] (fun t13 wr => ∃ k n : Nat, wr = w.drewN n ∧ k ≤ l.length ∧ t13 = .int .i64 (k : Int) ∧ Box (∀ (j : Nat) (hj : j < l.length) (hj' : j < m.length), j < k → l[j] = m[j])) (fun t13 _ => l.length - (RowKit.intOf t13).toNat)
  case atStart => exact ⟨0, 0, rfl, Nat.zero_le _, rfl, ⟨fun j _ _ h => by omega⟩⟩
  case round =>
    obtain ⟨k, n0, rfl, hk, rfl, HE⟩ := hrel
    by_cases hlt : k < l.length
    · have hlt2 : k < m.length := by omega
      obtain ⟨b, off, rfl, _, hrow⟩ := (H.out.resolve_left (by intro h; rw [h] at hlt; simp at hlt))
      obtain ⟨b', off', rfl, _, hrow'⟩ := (H'.out.resolve_left (by intro h; rw [h] at hlt2; simp at hlt2))
      have hc0 := hrow k hlt
      have hd0 := hrow' k hlt2
      have HNk := box (HNo.out k hlt hlt2)
      have HNx : Box (l[k] = m[k] → ∀ (j : Nat) (hj : j < l.length) (hj' : j < m.length), j < k + 1 → l[j] = m[j]) := ⟨fun e j hj hj' h => by
        by_cases h2 : j < k
        · exact HE.out j hj hj' h2
        · obtain rfl : j = k := by omega
          exact e⟩
      generalize l[k] = a0 at *
      generalize m[k] = b0 at *
      clear hrow hrow' HE
      have e0 := bytes_beq a0 b0
      by_cases hab : a0 = b0
      · rw [decide_eq_true hab] at e0
        have HN2 := box (HNx.out hab)
        clear HNx HNk hab
        go_wp2_with fail
        go_quiet (fail)
        go_wp2_with fail
        go_roundw
        case rel => exact ⟨k + 1, n0 + nq, rfl, hlt, by go_num, HN2⟩
        case measure => simp [RowKit.intOf]; omega
      · rw [decide_eq_false hab] at e0
        have HN2 := box (HNk.out hab)
        clear HNx HNk hab
        go_wp2_with fail
        go_quiet (fail)
        go_wp2_with fail
        go_ret
        rw [HN2.out]
        exact ⟨rfl, n0 + nq, World.drewN_drewN _ _ _⟩
    · have HY := box (HYes.out fun j hj hj' => HE.out j hj hj' (by omega))
      clear HE
      go_wp2_with fail
      go_ret
      rw [HY.out]
      exact ⟨rfl, n0, rfl⟩

end Go.Proofs.YtpeaefeoogcepaaDoor
