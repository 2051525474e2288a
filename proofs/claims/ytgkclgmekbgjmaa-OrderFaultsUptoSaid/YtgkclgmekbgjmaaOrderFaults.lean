/- OrderFaults, where what comes in is of bulk at most 1048576: a loop of writes is one of what flows, that is one of any; there is an order just without one. -/
import Derived.Test.YtgkclgmekbgjmaaDepG
import Derived.Test.YtgkclgmekbgjmaaStoOpen
namespace Go.Proofs.Ytgkclgmekbgjmaa
open Go.RowKit Go.Lib

/-- The story of the example. -/
def StoL.ex1 (N : Nat) : StoL := ⟨[⟨1, some ⟨N + 1, 0, none⟩, 1, [⟨0, 2⟩]⟩, ⟨2, some ⟨N + 1 + 1, 0, none⟩, 1, [⟨1, 1⟩]⟩], some ⟨N + 1 + 1 + 1, 0, none⟩, 2, [⟨some ⟨N + 1 + 1 + 1 + 1, 0, none⟩, 1, [2]⟩, ⟨some ⟨N + 1 + 1 + 1 + 1 + 1, 0, none⟩, 1, [1]⟩], some ⟨N + 1 + 1 + 1 + 1 + 1 + 1, 0, none⟩, 2⟩
theorem StoL.ex1_ok (N : Nat) : (StoL.ex1 N).Ok := by
  refine ⟨by simp [StoL.ex1], by simp [StoL.ex1], fun i hi => ?_, fun k hk => ?_⟩
  · rcases (show i = 0 ∨ i = 1 by simp [StoL.ex1] at hi; omega) with rfl | rfl
    · refine ⟨by simp [StoL.ex1], by simp [StoL.ex1], by omega, fun g hg => ?_⟩
      simp [StoL.ex1] at hg
      subst hg
      exact ⟨by simp, by simp [StoL.ex1], by simp [StoL.ex1], Or.inr (by simp [StoL.ex1])⟩
    · refine ⟨by simp [StoL.ex1], by simp [StoL.ex1], fun _ => by simp [StoL.ex1], fun g hg => ?_⟩
      simp [StoL.ex1] at hg
      subst hg
      exact ⟨by simp, by simp [StoL.ex1], by simp [StoL.ex1], Or.inr (by simp [StoL.ex1])⟩
  · rcases (show k = 0 ∨ k = 1 by simp [StoL.ex1] at hk; omega) with rfl | rfl
    · intro i hi
      obtain rfl : i = 0 := by simp [StoL.ex1] at hi; exact hi
      exact ⟨by simp [StoL.ex1], ⟨2, some ⟨N + 1 + 1, 0, none⟩, 1, [⟨1, 1⟩]⟩, by simp [StoL.ex1], rfl⟩
    · intro i hi
      obtain rfl : i = 0 := by simp [StoL.ex1] at hi; exact hi
      exact ⟨by simp [StoL.ex1], ⟨1, some ⟨N + 1, 0, none⟩, 1, [⟨0, 2⟩]⟩, by simp [StoL.ex1], rfl⟩
theorem StoL.ex1_deps (N : Nat) : (StoL.ex1 N).deps = [⟨2, 1, 2⟩, ⟨1, 2, 2⟩] := by
  rfl
theorem StoL.ex1_loops (N : Nat) : (StoL.ex1 N).loop 1 = false ∧ (StoL.ex1 N).loop 2 = true ∧ (StoL.ex1 N).loop 3 = true := by
  have h2 : (StoL.ex1 N).loop 2 = true := by
    unfold StoL.loop
    rw [Option.isNone_iff_eq_none, GrM.order_none_iff]
    have e : ∀ d ∈ (StoL.ex1 N).deps, GrM.E ((StoL.ex1 N).edges 2) d.frm.toNat d.to_.toNat = true := by
      intro d hd
      rw [GrM.E_iff]
      unfold StoL.edges
      refine List.mem_map.2 ⟨d, List.mem_filter.2 ⟨StoL.mem_told.2 hd, ?_⟩, ?_⟩
      · rw [StoL.ex1_deps] at hd
        simp at hd
        rcases hd with rfl | rfl <;> rfl
      · rw [StoL.ex1_deps] at hd
        simp at hd
        rcases hd with rfl | rfl <;> rfl
    rw [StoL.ex1_deps] at e
    exact ⟨1, by decide, .more (.one (by decide) (e ⟨1, 2, 2⟩ (by simp))) (by decide) (e ⟨2, 1, 2⟩ (by simp))⟩
  refine ⟨?_, h2, StoL.loop_mono (by decide) h2⟩
  have h1 : (StoL.ex1 N).edges 1 = [] := by
    unfold StoL.edges
    rw [List.map_eq_nil_iff, List.filter_eq_nil_iff]
    intro d hd
    rw [StoL.mem_told, StoL.ex1_deps] at hd
    simp at hd
    rcases hd with rfl | rfl <;> decide
  unfold StoL.loop
  rw [h1]
  decide +kernel

/-- The example in memory. -/
structure StoL.Ex1At (w : World) (c0 c1 : Value) (W : World) : Prop where
  below : Below w.heap.size w W
  arg : Blk W w.heap.size 25 [c0, c1]
  at_ : StoAt W (StoL.ex1 w.heap.size)
  ex : Blk W (w.heap.size + 1 + 1 + 1 + 1 + 1 + 1 + 1) 25 [.slice (some ⟨w.heap.size + 1 + 1 + 1, 0, none⟩) 2 2, .slice (some ⟨w.heap.size + 1 + 1 + 1 + 1 + 1 + 1, 0, none⟩) 2 2]
set_option maxHeartbeats 2000000 in
theorem StoL.ex1_at (w : World) (c0 c1 : Value) : StoL.Ex1At w c0 c1 ((((((((w.alloc (.cells #[c0, c1] 25)).alloc (.cells #[.int .i64 0, .int .i64 2] 27)).alloc (.cells #[.int .i64 1, .int .i64 1] 27)).alloc
      (.cells #[.int .i64 1, .slice (some ⟨w.heap.size + 1, 0, none⟩) 1 1, .int .i64 2, .slice (some ⟨w.heap.size + 1 + 1, 0, none⟩) 1 1] 30)).alloc (.cells #[.int .i64 2] 3)).alloc (.cells #[.int .i64 1] 3)).alloc
      (.cells #[.slice (some ⟨w.heap.size + 1 + 1 + 1 + 1, 0, none⟩) 1 1, .slice (some ⟨w.heap.size + 1 + 1 + 1 + 1 + 1, 0, none⟩) 1 1] 31)).alloc
      (.cells #[.slice (some ⟨w.heap.size + 1 + 1 + 1, 0, none⟩) 2 2, .slice (some ⟨w.heap.size + 1 + 1 + 1 + 1 + 1 + 1, 0, none⟩) 2 2] 25)) := by
  have hb : Below w.heap.size w ((((((((w.alloc (.cells #[c0, c1] 25)).alloc (.cells #[.int .i64 0, .int .i64 2] 27)).alloc (.cells #[.int .i64 1, .int .i64 1] 27)).alloc
      (.cells #[.int .i64 1, .slice (some ⟨w.heap.size + 1, 0, none⟩) 1 1, .int .i64 2, .slice (some ⟨w.heap.size + 1 + 1, 0, none⟩) 1 1] 30)).alloc (.cells #[.int .i64 2] 3)).alloc (.cells #[.int .i64 1] 3)).alloc
      (.cells #[.slice (some ⟨w.heap.size + 1 + 1 + 1 + 1, 0, none⟩) 1 1, .slice (some ⟨w.heap.size + 1 + 1 + 1 + 1 + 1, 0, none⟩) 1 1] 31)).alloc
      (.cells #[.slice (some ⟨w.heap.size + 1 + 1 + 1, 0, none⟩) 2 2, .slice (some ⟨w.heap.size + 1 + 1 + 1 + 1 + 1 + 1, 0, none⟩) 2 2] 25)) := by
    exact ((((((((Below.refl _ _).alloc (Nat.le_refl _) _).alloc (by simp) _).alloc (by simp; omega) _).alloc (by simp; omega) _).alloc (by simp; omega) _).alloc (by simp; omega) _).alloc (by simp; omega) _).alloc (by simp; omega) _
  have b0 : Blk ((((((((w.alloc (.cells #[c0, c1] 25)).alloc (.cells #[.int .i64 0, .int .i64 2] 27)).alloc (.cells #[.int .i64 1, .int .i64 1] 27)).alloc
      (.cells #[.int .i64 1, .slice (some ⟨w.heap.size + 1, 0, none⟩) 1 1, .int .i64 2, .slice (some ⟨w.heap.size + 1 + 1, 0, none⟩) 1 1] 30)).alloc (.cells #[.int .i64 2] 3)).alloc (.cells #[.int .i64 1] 3)).alloc
      (.cells #[.slice (some ⟨w.heap.size + 1 + 1 + 1 + 1, 0, none⟩) 1 1, .slice (some ⟨w.heap.size + 1 + 1 + 1 + 1 + 1, 0, none⟩) 1 1] 31)).alloc
      (.cells #[.slice (some ⟨w.heap.size + 1 + 1 + 1, 0, none⟩) 2 2, .slice (some ⟨w.heap.size + 1 + 1 + 1 + 1 + 1 + 1, 0, none⟩) 2 2] 25)) w.heap.size 25 [c0, c1] := (((((((Blk.new' (by simp) _ _).alloc _).alloc _).alloc _).alloc _).alloc _).alloc _).alloc _
  have b1 : Blk ((((((((w.alloc (.cells #[c0, c1] 25)).alloc (.cells #[.int .i64 0, .int .i64 2] 27)).alloc (.cells #[.int .i64 1, .int .i64 1] 27)).alloc
      (.cells #[.int .i64 1, .slice (some ⟨w.heap.size + 1, 0, none⟩) 1 1, .int .i64 2, .slice (some ⟨w.heap.size + 1 + 1, 0, none⟩) 1 1] 30)).alloc (.cells #[.int .i64 2] 3)).alloc (.cells #[.int .i64 1] 3)).alloc
      (.cells #[.slice (some ⟨w.heap.size + 1 + 1 + 1 + 1, 0, none⟩) 1 1, .slice (some ⟨w.heap.size + 1 + 1 + 1 + 1 + 1, 0, none⟩) 1 1] 31)).alloc
      (.cells #[.slice (some ⟨w.heap.size + 1 + 1 + 1, 0, none⟩) 2 2, .slice (some ⟨w.heap.size + 1 + 1 + 1 + 1 + 1 + 1, 0, none⟩) 2 2] 25)) (w.heap.size + 1) 27 [.int .i64 0, .int .i64 2] := ((((((Blk.new' (by simp) _ _).alloc _).alloc _).alloc _).alloc _).alloc _).alloc _
  have b2 : Blk ((((((((w.alloc (.cells #[c0, c1] 25)).alloc (.cells #[.int .i64 0, .int .i64 2] 27)).alloc (.cells #[.int .i64 1, .int .i64 1] 27)).alloc
      (.cells #[.int .i64 1, .slice (some ⟨w.heap.size + 1, 0, none⟩) 1 1, .int .i64 2, .slice (some ⟨w.heap.size + 1 + 1, 0, none⟩) 1 1] 30)).alloc (.cells #[.int .i64 2] 3)).alloc (.cells #[.int .i64 1] 3)).alloc
      (.cells #[.slice (some ⟨w.heap.size + 1 + 1 + 1 + 1, 0, none⟩) 1 1, .slice (some ⟨w.heap.size + 1 + 1 + 1 + 1 + 1, 0, none⟩) 1 1] 31)).alloc
      (.cells #[.slice (some ⟨w.heap.size + 1 + 1 + 1, 0, none⟩) 2 2, .slice (some ⟨w.heap.size + 1 + 1 + 1 + 1 + 1 + 1, 0, none⟩) 2 2] 25)) (w.heap.size + 1 + 1) 27 [.int .i64 1, .int .i64 1] := (((((Blk.new' (by simp) _ _).alloc _).alloc _).alloc _).alloc _).alloc _
  have b3 : Blk ((((((((w.alloc (.cells #[c0, c1] 25)).alloc (.cells #[.int .i64 0, .int .i64 2] 27)).alloc (.cells #[.int .i64 1, .int .i64 1] 27)).alloc
      (.cells #[.int .i64 1, .slice (some ⟨w.heap.size + 1, 0, none⟩) 1 1, .int .i64 2, .slice (some ⟨w.heap.size + 1 + 1, 0, none⟩) 1 1] 30)).alloc (.cells #[.int .i64 2] 3)).alloc (.cells #[.int .i64 1] 3)).alloc
      (.cells #[.slice (some ⟨w.heap.size + 1 + 1 + 1 + 1, 0, none⟩) 1 1, .slice (some ⟨w.heap.size + 1 + 1 + 1 + 1 + 1, 0, none⟩) 1 1] 31)).alloc
      (.cells #[.slice (some ⟨w.heap.size + 1 + 1 + 1, 0, none⟩) 2 2, .slice (some ⟨w.heap.size + 1 + 1 + 1 + 1 + 1 + 1, 0, none⟩) 2 2] 25)) (w.heap.size + 1 + 1 + 1) 30 [.int .i64 1, .slice (some ⟨w.heap.size + 1, 0, none⟩) 1 1, .int .i64 2, .slice (some ⟨w.heap.size + 1 + 1, 0, none⟩) 1 1] := ((((Blk.new' (by simp) _ _).alloc _).alloc _).alloc _).alloc _
  have b4 : Blk ((((((((w.alloc (.cells #[c0, c1] 25)).alloc (.cells #[.int .i64 0, .int .i64 2] 27)).alloc (.cells #[.int .i64 1, .int .i64 1] 27)).alloc
      (.cells #[.int .i64 1, .slice (some ⟨w.heap.size + 1, 0, none⟩) 1 1, .int .i64 2, .slice (some ⟨w.heap.size + 1 + 1, 0, none⟩) 1 1] 30)).alloc (.cells #[.int .i64 2] 3)).alloc (.cells #[.int .i64 1] 3)).alloc
      (.cells #[.slice (some ⟨w.heap.size + 1 + 1 + 1 + 1, 0, none⟩) 1 1, .slice (some ⟨w.heap.size + 1 + 1 + 1 + 1 + 1, 0, none⟩) 1 1] 31)).alloc
      (.cells #[.slice (some ⟨w.heap.size + 1 + 1 + 1, 0, none⟩) 2 2, .slice (some ⟨w.heap.size + 1 + 1 + 1 + 1 + 1 + 1, 0, none⟩) 2 2] 25)) (w.heap.size + 1 + 1 + 1 + 1) 3 [.int .i64 2] := (((Blk.new' (by simp) _ _).alloc _).alloc _).alloc _
  have b5 : Blk ((((((((w.alloc (.cells #[c0, c1] 25)).alloc (.cells #[.int .i64 0, .int .i64 2] 27)).alloc (.cells #[.int .i64 1, .int .i64 1] 27)).alloc
      (.cells #[.int .i64 1, .slice (some ⟨w.heap.size + 1, 0, none⟩) 1 1, .int .i64 2, .slice (some ⟨w.heap.size + 1 + 1, 0, none⟩) 1 1] 30)).alloc (.cells #[.int .i64 2] 3)).alloc (.cells #[.int .i64 1] 3)).alloc
      (.cells #[.slice (some ⟨w.heap.size + 1 + 1 + 1 + 1, 0, none⟩) 1 1, .slice (some ⟨w.heap.size + 1 + 1 + 1 + 1 + 1, 0, none⟩) 1 1] 31)).alloc
      (.cells #[.slice (some ⟨w.heap.size + 1 + 1 + 1, 0, none⟩) 2 2, .slice (some ⟨w.heap.size + 1 + 1 + 1 + 1 + 1 + 1, 0, none⟩) 2 2] 25)) (w.heap.size + 1 + 1 + 1 + 1 + 1) 3 [.int .i64 1] := ((Blk.new' (by simp) _ _).alloc _).alloc _
  have b6 : Blk ((((((((w.alloc (.cells #[c0, c1] 25)).alloc (.cells #[.int .i64 0, .int .i64 2] 27)).alloc (.cells #[.int .i64 1, .int .i64 1] 27)).alloc
      (.cells #[.int .i64 1, .slice (some ⟨w.heap.size + 1, 0, none⟩) 1 1, .int .i64 2, .slice (some ⟨w.heap.size + 1 + 1, 0, none⟩) 1 1] 30)).alloc (.cells #[.int .i64 2] 3)).alloc (.cells #[.int .i64 1] 3)).alloc
      (.cells #[.slice (some ⟨w.heap.size + 1 + 1 + 1 + 1, 0, none⟩) 1 1, .slice (some ⟨w.heap.size + 1 + 1 + 1 + 1 + 1, 0, none⟩) 1 1] 31)).alloc
      (.cells #[.slice (some ⟨w.heap.size + 1 + 1 + 1, 0, none⟩) 2 2, .slice (some ⟨w.heap.size + 1 + 1 + 1 + 1 + 1 + 1, 0, none⟩) 2 2] 25)) (w.heap.size + 1 + 1 + 1 + 1 + 1 + 1) 31 [.slice (some ⟨w.heap.size + 1 + 1 + 1 + 1, 0, none⟩) 1 1, .slice (some ⟨w.heap.size + 1 + 1 + 1 + 1 + 1, 0, none⟩) 1 1] := (Blk.new' (by simp) _ _).alloc _
  have b7 : Blk ((((((((w.alloc (.cells #[c0, c1] 25)).alloc (.cells #[.int .i64 0, .int .i64 2] 27)).alloc (.cells #[.int .i64 1, .int .i64 1] 27)).alloc
      (.cells #[.int .i64 1, .slice (some ⟨w.heap.size + 1, 0, none⟩) 1 1, .int .i64 2, .slice (some ⟨w.heap.size + 1 + 1, 0, none⟩) 1 1] 30)).alloc (.cells #[.int .i64 2] 3)).alloc (.cells #[.int .i64 1] 3)).alloc
      (.cells #[.slice (some ⟨w.heap.size + 1 + 1 + 1 + 1, 0, none⟩) 1 1, .slice (some ⟨w.heap.size + 1 + 1 + 1 + 1 + 1, 0, none⟩) 1 1] 31)).alloc
      (.cells #[.slice (some ⟨w.heap.size + 1 + 1 + 1, 0, none⟩) 2 2, .slice (some ⟨w.heap.size + 1 + 1 + 1 + 1 + 1 + 1, 0, none⟩) 2 2] 25)) (w.heap.size + 1 + 1 + 1 + 1 + 1 + 1 + 1) 25 [.slice (some ⟨w.heap.size + 1 + 1 + 1, 0, none⟩) 2 2, .slice (some ⟨w.heap.size + 1 + 1 + 1 + 1 + 1 + 1, 0, none⟩) 2 2] := Blk.new' (by simp) _ _
  refine ⟨hb, b0, ⟨?_, ?_, ?_, ?_, ?_, ?_, by simp [StoL.ex1]⟩, b7⟩
  · refine Or.inr ⟨_, 0, rfl, b3.lt, fun k hk => ?_⟩
    rcases (show k = 0 ∨ k = 1 by simp [StoL.ex1] at hk; omega) with rfl | rfl
    · exact ⟨b3.cell rfl, b3.cell rfl⟩
    · exact ⟨b3.cell rfl, b3.cell rfl⟩
  · intro t ht
    simp [StoL.ex1] at ht
    rcases ht with rfl | rfl
    · refine Or.inr ⟨_, 0, rfl, b1.lt, fun k hk => ?_⟩
      obtain rfl : k = 0 := by simp at hk; exact hk
      exact ⟨b1.cell rfl, b1.cell rfl⟩
    · refine Or.inr ⟨_, 0, rfl, b2.lt, fun k hk => ?_⟩
      obtain rfl : k = 0 := by simp at hk; exact hk
      exact ⟨b2.cell rfl, b2.cell rfl⟩
  · refine Or.inr ⟨_, 0, rfl, b6.lt, fun k hk => ?_⟩
    rcases (show k = 0 ∨ k = 1 by simp [StoL.ex1] at hk; omega) with rfl | rfl
    · exact b6.cell rfl
    · exact b6.cell rfl
  · intro v hv
    simp [StoL.ex1] at hv
    rcases hv with rfl | rfl
    · refine Or.inr ⟨_, 0, rfl, b4.lt, fun k hk => ?_⟩
      obtain rfl : k = 0 := by simp at hk; exact hk
      exact b4.cell rfl
    · refine Or.inr ⟨_, 0, rfl, b5.lt, fun k hk => ?_⟩
      obtain rfl : k = 0 := by simp at hk; exact hk
      exact b5.cell rfl
  · intro v hv
    simp [StoL.ex1] at hv
    rcases hv with rfl | rfl <;> simp
  · intro t ht
    simp [StoL.ex1] at ht
    rcases ht with rfl | rfl <;> simp

set_option maxRecDepth 20000 in
set_option maxHeartbeats 16000000 in
theorem orderFaults_law (s : StoL) (w : World) (h : StoAt w s) (hsm : ∀ t ∈ s.tls, t.gs.length ≤ 1048576) :
    Calls Try.prog 4 #[.agg #[.slice s.ta s.tls.length s.tc, .slice s.ra s.vrs.length s.rc]] w fun e w' => e = .returned (.bool true) ∧ Below w.heap.size w w' := by
  have HF := box (fun wx (hb : Below w.heap.size w wx) => orderFaults_any s wx (h.below hb (Nat.le_refl _)) hsm)
  have HS := box (fun wx (hb : Below w.heap.size w wx) => orderSerial_any s wx (h.below hb (Nat.le_refl _)) hsm)
  obtain ⟨n, HN⟩ : ∃ n, Box (s.tls.length = n) := ⟨_, ⟨rfl⟩⟩
  obtain ⟨m, HM⟩ : ∃ m, Box (s.vrs.length = m) := ⟨_, ⟨rfl⟩⟩
  rw [HN.out, HM.out] at HF HS ⊢
  clear h hsm
  go_enter Try.func4, Try.ntmps4
  go_upto_region 2 with (fail)
  refine name_world (StoL.Ex1At w (.slice s.ta n s.tc) (.slice s.ra m s.rc)) (StoL.ex1_at w _ _) ?_
  generalize hN7 : w.heap.size + 1 + 1 + 1 + 1 + 1 + 1 + 1 = N7
  rintro W ⟨hb, hs, he, hx⟩
  rw [hN7] at hx
  have HB := box hb; have HS0 := box hs
  have HX1 := box (orderFaults_any (StoL.ex1 w.heap.size) W he (by intro t ht; simp [StoL.ex1] at ht; rcases ht with rfl | rfl <;> simp))
  have HX2 := box (StoL.ex1_loops w.heap.size)
  have HX3 := box (StoL.ex1_ok w.heap.size)
  have x0 := hx.cell (i := 0) rfl
  have x1 := hx.cell (i := 1) rfl
  clear hb hs he hx hN7
  go_wp2_with fail
  refine HX1.out.mono ?_
  rintro e w1 ⟨hb1, ⟨hno, _⟩ | ⟨_, rfl⟩⟩
  · exact absurd HX3.out hno
  obtain ⟨l1, l2, l3⟩ := HX2.out
  rw [l1, l2, l3]
  have HB1 := box (below_tr HB.out hb1)
  have HS1 := box (HS0.out.after hb1)
  clear HX1 HX2 HX3 hb1 HB HS0 x0 x1 l1 l2 l3
  go_upto_region 5 with (fail)
  refine name_world (fun V => Below w.heap.size w V ∧ Blk V w.heap.size 25 [.slice s.ta n s.tc, .slice s.ra m s.rc]) ⟨HB1.out.alloc HB1.out.size _, HS1.out.alloc _⟩ ?_
  rintro V ⟨hb, hs⟩
  have HB := box hb; have HS0 := box hs
  have p0 := hs.cell (i := 0) rfl
  have p1 := hs.cell (i := 1) rfl
  clear hb hs HB1 HS1
  go_wp2_with fail
  refine (HF.out V HB.out).mono ?_
  rintro e w2 ⟨hb2, hc⟩
  have HB2 := box (below_tr HB.out hb2)
  have HS2 := box (HS0.out.after hb2)
  clear hb2 p0 p1 HF HB HS0
  rcases hc with ⟨hno, c, hc0, rfl⟩ | ⟨hok, rfl⟩
  · have q1 : (c == 0) = false := by simpa using hc0
    have q2 : (c != 0) = true := by simpa using hc0
    clear hno hc0
    go_wp2_with fail
    go_ret
    exact ⟨rfl, HB2.out.alloc HB2.out.size _⟩
  have HOk := box hok
  clear hok
  obtain ⟨a1, Ha1⟩ : ∃ b, Box (s.loop 1 = b) := ⟨_, ⟨rfl⟩⟩
  obtain ⟨a2, Ha2⟩ : ∃ b, Box (s.loop 2 = b) := ⟨_, ⟨rfl⟩⟩
  obtain ⟨a3, Ha3⟩ : ∃ b, Box (s.loop 3 = b) := ⟨_, ⟨rfl⟩⟩
  have Hm1 : Box (a1 = true → a2 = true) := ⟨by rw [← Ha1.out, ← Ha2.out]; exact StoL.loop_mono (by decide)⟩
  have Hm2 : Box (a2 = true → a3 = true) := ⟨by rw [← Ha3.out, ← Ha2.out]; exact StoL.loop_mono (by decide)⟩
  have Hl3 : Box (a3 = (GrM.order 12 (s.edges 3)).isNone) := ⟨Ha3.out.symm⟩
  rw [Ha1.out, Ha2.out, Ha3.out]
  clear Ha1 Ha2 Ha3
  go_upto_region 8 with (fail)
  refine name_world (fun V => Below w.heap.size w V ∧ Blk V w.heap.size 25 [.slice s.ta n s.tc, .slice s.ra m s.rc] ∧ Blk V w2.heap.size 39 [.bool a1, .bool a2, .bool a3]) ⟨HB2.out.alloc HB2.out.size _, HS2.out.alloc _, Blk.new _ _ _⟩ ?_
  generalize w2.heap.size = F at *
  rintro V ⟨hb, hs, hf⟩
  have HB := box hb; have HFb := box hf
  have p0 := hs.cell (i := 0) rfl
  have p1 := hs.cell (i := 1) rfl
  clear hb hs hf HB2 HS2
  go_wp2_with fail
  refine (HS.out V HB.out).mono ?_
  rintro e w3 ⟨hb3, hc⟩
  have HB3 := box (below_tr HB.out hb3)
  have HF3 := HFb.out.after hb3
  have f0 := HF3.cell (i := 0) rfl
  have f1 := HF3.cell (i := 1) rfl
  have f2 := HF3.cell (i := 2) rfl
  clear hb3 p0 p1 HF3
  rcases hc with ⟨hno, _⟩ | ⟨_, ho, rfl⟩ | ⟨_, r, v, ho, rfl, _⟩
  · exact absurd HOk.out hno
  · have h3 : a3 = true := by rw [Hl3.out, ho]; rfl
    subst h3
    clear ho
    cases a1 with
    | true =>
      obtain rfl : a2 = true := Hm1.out rfl
      go_wp2_with fail
      go_ret
      exact ⟨rfl, HB3.out⟩
    | false =>
      cases a2 <;>
      · go_wp2_with fail
        go_ret
        exact ⟨rfl, HB3.out⟩
  · have h3 : a3 = false := by rw [Hl3.out, ho]; rfl
    subst h3
    clear ho
    cases a2 with
    | true => exact absurd (Hm2.out rfl) (by simp)
    | false =>
      cases a1 with
      | true => exact absurd (Hm1.out rfl) (by simp)
      | false =>
        go_wp2_with fail
        go_ret
        exact ⟨rfl, HB3.out⟩
namespace lawOrderFaults
open Go.ChangeShapes Go.WideShapes Go.ChangeAt Go.RowKit Go.ChangeMaps

set_option maxRecDepth 100000 in
theorem lifted (os : Os) (started : os.Started) (H : Type) (enc : TypeId × Value → H) (F : Stop.Interp) :
    ReturnsInHanded {} Try.checked os 4 .any ((Rows.OpenSpec.upto Rows.orderFaultsSpec).pre6 enc Try.prog Try.f4 [] false) (((Rows.OpenSpec.upto Rows.orderFaultsSpec).at F).post enc Try.prog Try.f4 false true false false) := by
  refine LawKit.law_lifted_upto started (by kernel_rfl) Try.func4 rfl
    (fun ds h => by
      match ds, h with
      | [_], _ => rfl)
    rfl Try.underlying4 (by intro t ht; exact of_decide_eq_true (p := Try.prog.readableRec t = true ∧ t < Try.prog.types.size) (by revert t ht; decide +kernel))
    (OpenSpec.witness (enc := enc) (C := Try.checked) (s := Rows.OpenSpec.upto Rows.orderFaultsSpec) (k := Rows.uptoSmall) rfl false ⟨#[], #[.agg #[.slice none 0 0, .slice none 0 0]], []⟩ 8 (by kernel_rfl) (by kernel_rfl) (by kernel_rfl)
      (x := ([.agg [.nil, .nil]], [], [])) (by kernel_rfl) rfl (by kernel_rfl)) ?_
  intro W base args ds ps hval hA hsz hbk hlt hfz
  have hA' := hA
  rw [Try.params4] at hA hval
  obtain ⟨v0, vs0, d0, ds0, p0, q0, hargs, rfl, rfl, h0, r0⟩ := trodAll_cons hA
  obtain ⟨rfl, rfl, rfl⟩ := trodAll_nil r0
  obtain rfl : args = #[v0] := by cases args; simp_all
  obtain ⟨s, rfl, hat, hsm⟩ := open_story (hval 0 _ _ rfl rfl) h0 (by simp only [Rows.uptoBulkAll] at hbk; omega)
  refine (orderFaults_law s W hat hsm).mono ?_
  rintro e W' ⟨rfl, hb⟩
  exact ⟨rfl, hb⟩

theorem proved : Rows.OrderFaultsUptoSaid :=
  OpenClaim.holds_of_cond 4 Try.f4 rfl rfl rfl rfl rfl rfl rfl ⟨rfl, rfl, rfl, rfl, rfl⟩ rfl rfl rfl rfl rfl (by kernel_rfl) Try.func4 (by kernel_rfl)
    (of_decide_eq_true (by kernel_rfl)) (by unfold Func.isWrapper; first | (rw [if_pos (by decide +kernel)]; kernel_rfl) | (rw [if_neg (by decide +kernel)]; exact ⟨rfl, rfl⟩))
    (fun os started H enc _ F => lifted os started H enc F)
end lawOrderFaults
end Go.Proofs.Ytgkclgmekbgjmaa
