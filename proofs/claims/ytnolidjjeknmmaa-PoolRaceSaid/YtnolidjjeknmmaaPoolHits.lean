/- quirkeep.hits; what the rules of the pool leave, told for the laws. -/
import Derived.Test.YtnolidjjeknmmaaPoolBestW
import Derived.Test.YtnolidjjeknmmaaPoolClk
import Derived.Test.YtnolidjjeknmmaaPoolBel
namespace Go.Proofs.Ytnolidjjeknmmaa
open Go.RowKit Go.Lib

def BoolsAt (w : World) (ao : Option Addr) (l : List Bool) : Prop :=
  l = [] ∨ ∃ b off, ao = some ⟨b, off, none⟩ ∧ b < w.heap.size ∧ ∀ k (h : k < l.length), w.cell? ⟨b, off + k, none⟩ = some (.bool l[k])
theorem BoolsAt.below {B : Nat} {w w' : World} {ao : Option Addr} {l : List Bool} (h : BoolsAt w ao l) (hb : Below B w w') (hB : w.heap.size ≤ B) : BoolsAt w' ao l := by
  rcases h with h | ⟨b, off, h1, h2, h3⟩
  · exact Or.inl h
  · exact Or.inr ⟨b, off, h1, Nat.lt_of_lt_of_le h2 hb.size, fun k hk => (hb.cell (p := ⟨b, off + k, none⟩) (by show b < B; omega)).trans (h3 k hk)⟩
theorem BoolsAt.own {w : World} {base n : Nat} {v : Value} {l : List Bool} (h : w.ownsRow base 4 1 v n (boolVals l)) : ∃ ao cap, v = .slice ao l.length cap ∧ BoolsAt w ao l := by
  have hl : n = l.length := by have := h.1; rw [boolVals_len] at this; omega
  have h0 := h
  rcases h.2 with ⟨h1, h2⟩ | ⟨g, cap, cur, h1, h2, h3, _⟩
  · have e : l = [] := List.eq_nil_of_length_eq_zero (by omega)
    subst e
    exact ⟨none, 0, h1, Or.inl rfl⟩
  · refine ⟨some ⟨g, 0, none⟩, cap, by rw [h1, hl], Or.inr ⟨g, 0, rfl, lt_of_block h3, fun k hk => ?_⟩⟩
    rw [h1] at h0
    rw [Nat.zero_add, h0.cellAt k (by omega), boolVals_get hk]

set_option maxRecDepth 20000 in
set_option maxHeartbeats 2000000 in
theorem hits_any (l : List Bool) (ao : Option Addr) (cap : Nat) (w : World) (h : BoolsAt w ao l) (hn : l.length ≤ 2000) :
    Calls Try.prog 46 #[.slice ao l.length cap] w fun e w' => e = .returned (.int .i64 (l.count true : Nat)) ∧ w = w' := by
  have H := box h
  clear h
  go_enter Try.func46, Try.ntmps46
  go_wp2_with fail
  go_loopw [3, 8] (fun t3 t8 wr => ∃ k : Nat, wr = w ∧ k ≤ l.length ∧ t8 = .int .i64 (k : Int) ∧ t3 = .int .i64 ((l.take k).count true : Nat)) (fun _ t8 _ => l.length - (intOf t8).toNat)
  case atStart => exact ⟨0, rfl, Nat.zero_le _, rfl, by simp⟩
  case round =>
    obtain ⟨k, rfl, hk, rfl, rfl⟩ := hrel
    by_cases hlt : k < l.length
    · obtain ⟨b, off, rfl, _, hrow⟩ := H.out.resolve_left (by intro h; rw [h] at hlt; simp at hlt)
      have c0 := hrow k hlt
      have hs : (l.take (k + 1)).count true = (l.take k).count true + if l[k] then 1 else 0 := by
        rw [List.take_succ_eq_append_getElem hlt, List.count_append]
        cases l[k] <;> simp
      have hle := List.count_le_length (a := true) (l := l.take k)
      rw [List.length_take] at hle
      have HS := box hs
      generalize hm : (l.take k).count true = m at *
      have w1 : IntKind.i64.wrap ((m : Int) + 1) = (m : Int) + 1 := IntWalk.i64_in _ (by omega)
      clear hs hrow hm
      cases hb : l[k]
      · rw [hb] at c0 HS
        go_wp2_with fail
        go_roundw
        case rel => exact ⟨k + 1, by simp, hlt, by go_num, by rw [HS.out]; simp⟩
        case measure => simp [intOf]; omega
      · rw [hb] at c0 HS
        go_wp2_with fail
        go_roundw
        case rel => exact ⟨k + 1, by simp, hlt, by go_num, by rw [HS.out]; simp⟩
        case measure => simp [intOf]; omega
    · have hkn : k = l.length := by omega
      subst hkn
      have HT : Box (l.take l.length = l) := ⟨List.take_length ..⟩
      go_wp2_with fail
      go_ret
      exact ⟨by rw [HT.out]; rfl, rfl⟩

def GotOk (N : Nat) (hs : List Bool) (ks : List Int) (w : World) (e : Ending) (w' : World) : Prop :=
  ∃ ho hc ko kc, e = .returned (.tuple #[.slice ho N hc, .slice ko ks.length kc, .int .i64 0]) ∧ BoolsAt w' ho hs ∧ hs.length = N ∧ IntsAt w' ko ks ∧ ks.length ≤ kc ∧ Below w.heap.size w w'
def GotErr (c : Int) (w : World) (e : Ending) (w' : World) : Prop := e = .returned (.tuple #[.slice none 0 0, .slice none 0 0, .int .i64 c]) ∧ Below w.heap.size w w'
theorem PoolPost.ok {pick : List Int → Nat → Nat} {seen : List Int → Int → List Int} {size : Int} {refs : List Int} {w w' : World} {e : Ending} (hc : PoolM.check size refs.length = 0) (h : PoolPost pick seen size refs w e w') :
    GotOk refs.length (PoolM.hits pick seen size.toNat refs refs.length) (PoolM.kept pick seen size.toNat refs refs.length) w e w' := by
  obtain ⟨hb, ⟨h1, _⟩ | ⟨_, hv, kv, rfl, h1, h2⟩⟩ := h
  · exact absurd hc h1
  · obtain ⟨ho, hcc, rfl, hat⟩ := BoolsAt.own h1
    obtain ⟨ko, kc, rfl, _, hat2, _, hkc⟩ := IntsAt.own h2
    exact ⟨ho, hcc, ko, kc, by rw [PoolM.hits_len], hat, PoolM.hits_len _ _ _ _ _, hat2, hkc, hb⟩
theorem PoolPost.err {pick : List Int → Nat → Nat} {seen : List Int → Int → List Int} {size : Int} {refs : List Int} {w w' : World} {e : Ending} (hc : PoolM.check size refs.length ≠ 0) (h : PoolPost pick seen size refs w e w') :
    GotErr (PoolM.check size refs.length) w e w' := by
  obtain ⟨hb, ⟨_, h1⟩ | ⟨h1, _⟩⟩ := h
  · exact ⟨h1, hb⟩
  · exact absurd h1 hc
theorem ClkPost.ok {size : Int} {refs : List Int} {w w' : World} {e : Ending} (hc : PoolM.check size refs.length = 0) (h : ClkPost size refs w e w') :
    GotOk refs.length (PoolM.clkHits size.toNat refs refs.length) (PoolM.clkAt size.toNat refs refs.length).fr w e w' := by
  obtain ⟨hb, ⟨h1, _⟩ | ⟨_, hv, kv, rfl, h1, h2⟩⟩ := h
  · exact absurd hc h1
  · obtain ⟨ho, hcc, rfl, hat⟩ := BoolsAt.own h1
    obtain ⟨ko, kc, rfl, _, hat2, _, hkc⟩ := IntsAt.own h2
    exact ⟨ho, hcc, ko, kc, by rw [PoolM.clkHits_len], hat, PoolM.clkHits_len _ _ _, hat2, hkc, hb⟩
theorem ClkPost.err {size : Int} {refs : List Int} {w w' : World} {e : Ending} (hc : PoolM.check size refs.length ≠ 0) (h : ClkPost size refs w e w') :
    GotErr (PoolM.check size refs.length) w e w' := by
  obtain ⟨hb, ⟨_, h1⟩ | ⟨h1, _⟩⟩ := h
  · exact ⟨h1, hb⟩
  · exact absurd h1 hc

theorem PoolM.kept_sched {pick : List Int → Nat → Nat} {seen : List Int → Int → List Int} (hr : PoolM.Rule pick seen) {a b : Nat} (h1 : 1 ≤ a) (hab : a ≤ b) (refs : List Int) : PoolM.Sched b refs (PoolM.kept pick seen a refs) := by
  refine ⟨rfl, fun t ht => (PoolM.kept_inv hr a refs t ht).nodup, fun t _ => Nat.le_trans (PoolM.kept_len hr a h1 refs t) hab, fun t ht x hx => ?_, fun t ht => (PoolM.kept_inv hr a refs (t + 1) (by omega)).last (by omega)⟩
  have hp : PoolM.kept pick seen a refs (t + 1) = PoolM.step pick seen a (PoolM.kept pick seen a refs t) t (refs.getD t 0) := rfl
  rw [hp] at hx
  unfold PoolM.step at hx
  split at hx
  · rename_i h
    exact Or.inl ((hr.seen _ _ h).mem_iff.1 hx)
  · rcases List.mem_append.1 hx with h2 | h2
    · split at h2
      · exact Or.inl (List.mem_of_mem_eraseIdx h2)
      · exact Or.inl h2
    · exact Or.inr (by simpa using h2)
theorem PoolM.clk_sched {a : Nat} (h1 : 1 ≤ a) (refs : List Int) : PoolM.Sched a refs (fun t => (PoolM.clkAt a refs t).fr) := by
  refine ⟨rfl, fun t ht => (PoolM.clk_inv h1 refs t ht).nodup, fun t _ => (PoolM.clk_ok h1 refs t).le, fun t ht x hx => ?_, fun t ht => (PoolM.clk_inv h1 refs (t + 1) (by omega)).last (by omega)⟩
  have hp : PoolM.clkAt a refs (t + 1) = PoolM.clk a (PoolM.clkAt a refs t) (refs.getD t 0) := rfl
  rw [hp] at hx
  unfold PoolM.clk at hx
  split at hx
  · exact Or.inl hx
  · split at hx
    · rcases List.mem_append.1 hx with h2 | h2
      · exact Or.inl h2
      · exact Or.inr (by simpa using h2)
    · exact List.mem_or_eq_of_mem_set hx
theorem PoolM.cnt_hits (pick : List Int → Nat → Nat) (seen : List Int → Int → List Int) (size : Nat) (refs : List Int) (n : Nat) : (PoolM.hits pick seen size refs n).count true = PoolM.cnt refs (PoolM.kept pick seen size refs) n := by
  unfold PoolM.hits PoolM.cnt
  rw [List.count, List.countP_map]
  congr 1
  funext j
  simp
theorem PoolM.cnt_clk (size : Nat) (refs : List Int) (n : Nat) : (PoolM.clkHits size refs n).count true = PoolM.cnt refs (fun t => (PoolM.clkAt size refs t).fr) n := by
  unfold PoolM.clkHits PoolM.cnt
  rw [List.count, List.countP_map]
  congr 1
  funext j
  simp
theorem PoolM.best_most (size : Nat) (h1 : 1 ≤ size) (refs : List Int) (S : Nat → List Int) (hS : PoolM.Sched size refs S) :
    PoolM.cnt refs S refs.length ≤ (PoolM.hits (PoolM.farthest refs) PoolM.same size refs refs.length).count true := by
  rw [PoolM.cnt_hits]
  have := PoolM.belady size h1 refs S hS refs.length (Nat.le_refl _) 0
  rw [PoolM.soon_none _ _ _ _ (Nat.le_refl _) (Nat.zero_le _), PoolM.soon_none _ _ _ _ (Nat.le_refl _) (Nat.zero_le _)] at this
  omega
end Go.Proofs.Ytnolidjjeknmmaa
