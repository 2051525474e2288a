/- leaf.Read: what it computes. -/
import Derived.Test.YtjkgfjnfikcmhaaLeafText
import Derived.Deep.DeepMust
namespace Go.Proofs.Ytjkgfjnfikcmhaa
open Go.RowKit Go.Lib

theorem bcell {W w1 : World} {N : Nat} (hb : Below N W w1) : (∀ b o, b < N → w1.cell? ⟨b, o, none⟩ = W.cell? ⟨b, o, none⟩) ∧ (∀ b o, b < N → w1.frozen? ⟨b, o, none⟩ = W.frozen? ⟨b, o, none⟩) :=
  ⟨fun b o h => hb.cell (p := ⟨b, o, none⟩) h, fun b o h => hb.frozen (p := ⟨b, o, none⟩) h⟩

/-- What Read leaves: an error; or a page in memory of its own. -/
def LeafM.ReadPost (s : ByteArray) (w : World) (e : Ending) (w' : World) : Prop :=
  Below w.heap.size w w' ∧
    ((LeafM.read s.data.toList = none ∧ e = .returned (.tuple #[.agg #[.slice none 0 0], .int .i64 4])) ∨
     (∃ ls ao cap, LeafM.read s.data.toList = some ls ∧ e = .returned (.tuple #[.agg #[.slice ao ls.length cap], .int .i64 0]) ∧ LeafM.At w' ao ls ∧ LeafM.Fits ls))

/-- The loop of Read. -/
def LeafM.RRel (s1 : List UInt8) (n B : Nat) (M : Nat) (w : World) (t0 t29 : Value) (wr : World) : Prop :=
  ∃ (k : Nat) (S : ByteArray) (acc : List (Bool × ByteArray)) (v : Value), k ≤ n ∧ t29 = .int .u64 (k : Int) ∧ t0 = .string S ∧ S.size ≤ M ∧ acc.length = k ∧
    LeafM.readF (n - k) acc S.data.toList = LeafM.readF n [] s1 ∧ (∀ x ∈ acc, x.2.size ≤ 512) ∧ wr.ownsRow (B + 2) 64 2 v k (LeafM.cells acc) ∧
    wr.cell? ⟨B, 0, none⟩ = some (.slice none 0 0) ∧ wr.frozen? ⟨B, 0, none⟩ = false ∧ wr.cell? ⟨B + 1, 0, none⟩ = some v ∧ wr.frozen? ⟨B + 1, 0, none⟩ = false ∧ Below B w wr ∧ B + 2 ≤ wr.heap.size

theorem LeafM.RRel_next {s1 : List UInt8} {n B M k : Nat} {w W w2 : World} {S S' : ByteArray} {acc : List (Bool × ByteArray)} {x : Bool × ByteArray} {v : Value} {g cap : Nat}
    (hk : k < n) (hS : S.size ≤ M) (hacc : acc.length = k) (hF : LeafM.readF (n - k) acc S.data.toList = LeafM.readF n [] s1) (hsz : ∀ x ∈ acc, x.2.size ≤ 512)
    (hstep : LeafM.step S.data.toList = some (x, S'.data.toList)) (hS' : S'.size ≤ S.size) (hx : x.2.size ≤ 512)
    (hB : Below B w W) (hs : B + 2 ≤ W.heap.size) (hc0 : W.cell? ⟨B, 0, none⟩ = some (.slice none 0 0)) (hf0 : W.frozen? ⟨B, 0, none⟩ = false) (hc1 : W.cell? ⟨B + 1, 0, none⟩ = some v) (hf1 : W.frozen? ⟨B + 1, 0, none⟩ = false)
    (hlt : ∀ b, v.ownBlock = some b → B + 2 ≤ b) (hown : w2.ownsRow (B + 2) 64 2 (.slice (some ⟨g, 0, none⟩) (k + 1) cap) (k + 1) (LeafM.cells acc ++ [.bool x.1, .string x.2])) (hgrow : W.grownBy w2 v.ownBlock) :
    (w2.cell? ⟨B + 1, 0, none⟩ = some v ∧ w2.frozen? ⟨B + 1, 0, none⟩ = false) ∧
    LeafM.RRel s1 n B M w (.string S') (.int .u64 ((k : Int) + 1)) (w2.setCell ⟨B + 1, 0, none⟩ (.slice (some ⟨g, 0, none⟩) (k + 1) cap)) := by
  have hb : Below (B + 2) W w2 := (Below.refl _ _).grown hgrow hs hlt
  have c0 := (hb.cell (p := ⟨B, 0, none⟩) (by show B < B + 2; omega)).trans hc0
  have f0 := (hb.frozen (p := ⟨B, 0, none⟩) (by show B < B + 2; omega)).trans hf0
  have c1 := (hb.cell (p := ⟨B + 1, 0, none⟩) (by show B + 1 < B + 2; omega)).trans hc1
  have f1 := (hb.frozen (p := ⟨B + 1, 0, none⟩) (by show B + 1 < B + 2; omega)).trans hf1
  have hg := (hown.lt g rfl).1
  refine ⟨⟨c1, f1⟩, k + 1, S', acc ++ [x], .slice (some ⟨g, 0, none⟩) (k + 1) cap, hk, rfl, rfl, by omega, by simp [hacc], ?_, ?_, ?_, ?_, ?_, ?_, ?_, ?_, ?_⟩
  · rw [← hF, show n - k = (n - (k + 1)) + 1 by omega, LeafM.readF, hstep]
  · intro y hy
    rcases List.mem_append.1 hy with h | h
    · exact hsz y h
    · rw [List.mem_singleton.1 h]; exact hx
  · rw [LeafM.cells_append]
    exact ownsRow_setCell_other hown (by simp [Value.ownBlock]; omega) _
  · rw [LeafM.cell_other (by omega)]; exact c0
  · rw [World.frozen?_setCell]; exact f0
  · exact World.cell?_setCell_same _ _ _ c1
  · rw [World.frozen?_setCell]; exact f1
  · exact (hB.trans (hb.mono (by omega))).setCell (by show B ≤ B + 1; omega) _
  · rw [World.size_setCell]; have := hgrow.size; omega

set_option maxRecDepth 20000 in
set_option maxHeartbeats 4000000 in
theorem read_any (s : ByteArray) (w : World) (hs : s.size ≤ 140737488355328) :
    Calls Try.prog 31 #[.string s] w (LeafM.ReadPost s w) := by
  obtain ⟨i0, hi, hz0, hz1, hz2⟩ := info_parts Try.infoSlot
  have hx0 : (w.alloc (.cells #[.slice none 0 0] 51)).cell? ⟨w.heap.size, 0, none⟩ = some (.slice none 0 0) := by go_simp
  have hy0 : (w.alloc (.cells #[.slice none 0 0] 51)).frozen? ⟨w.heap.size, 0, none⟩ = false := by go_simp
  have Hx0 := box hx0; have Hy0 := box hy0
  obtain ⟨⟨n, j, e⟩, HG⟩ : ∃ x, Box (CodeM.getNat s.data.toList = x) := ⟨_, ⟨rfl⟩⟩
  go_enter Try.func31, Try.ntmps31
  go_wp2_with fail
  refine (getNat_any s _ (by omega)).mono ?_
  rintro e' w' ⟨rfl, rfl⟩
  rw [HG.out]
  unfold CodeM.tup
  by_cases he : e = 0
  case neg =>
    have g1 : (e == 0) = false := by simp [he]
    have g2 : (e != 0) = true := by simp [he]
    have HR : Box (LeafM.read s.data.toList = none) := ⟨by unfold LeafM.read; rw [HG.out, if_pos (Or.inl he)]⟩
    clear he
    go_wp2_with fail
    refine bodyPost_ret (v := .tuple #[.agg #[.slice none 0 0], .int .i64 4]) (by simp [results, Try.results31, go_sem]) rfl ⟨?_, Or.inl ⟨HR.out, rfl⟩⟩
    exact (Below.refl _ _).alloc (Nat.le_refl _) _
  subst he
  have hok := CodeM.get_ok HG.out
  obtain ⟨j1, j2, nb, _⟩ := hok
  have j2 : j ≤ s.size := j2
  by_cases hn : 40 < n
  · have q : decide ((40 : Int) < (n : Int)) = true := by simp; omega
    have HR : Box (LeafM.read s.data.toList = none) := ⟨by unfold LeafM.read; rw [HG.out, if_pos (Or.inr hn)]⟩
    clear hn
    go_wp2_with fail
    refine bodyPost_ret (v := .tuple #[.agg #[.slice none 0 0], .int .i64 4]) (by simp [results, Try.results31, go_sem]) rfl ⟨?_, Or.inl ⟨HR.out, rfl⟩⟩
    exact (Below.refl _ _).alloc (Nat.le_refl _) _
  have q : decide ((40 : Int) < (n : Int)) = false := by simp; omega
  have Hn := box hn
  have HR : Box (LeafM.read s.data.toList = match LeafM.readF n [] (s.data.toList.drop j) with
    | none => none
    | some (ls, r) => if r ≠ [] ∨ LeafM.check ls ≠ 0 then none else some ls) := ⟨by unfold LeafM.read; rw [HG.out, if_neg (by have := Hn.out; simp; omega)]; rfl⟩
  have HS1 : Box ((s.extract j s.size).data.toList = s.data.toList.drop j) := ⟨by
    have h := CodeM.extract_eq s j (s.size - j)
    rw [show j + (s.size - j) = s.size by omega] at h
    rw [h]
    exact List.take_of_length_le (by rw [List.length_drop]; exact Nat.le_refl _)⟩
  have hs1 : (s.extract j s.size).size ≤ s.size := by simp
  clear hn
  go_wp2_with fail
  go_loopw [0, 29] (fun t0 t29 wr => LeafM.RRel (s.data.toList.drop j) n w.heap.size s.size w t0 t29 wr) (fun _ t29 _ => n - (intOf t29).toNat)
  case atStart =>
    refine ⟨0, s.extract j s.size, [], .slice none 0 0, Nat.zero_le _, rfl, rfl, hs1, rfl, by rw [HS1.out]; rfl, by simp, World.ownsRow_nil _ _ _ _, ?_, ?_, ?_, ?_, ?_, ?_⟩
    · rw [World.cell?_alloc_past (hn := by simp)]; exact Hx0.out
    · go_simp
    · go_simp
    · go_simp
    · exact ((Below.refl _ _).alloc (Nat.le_refl _) _).alloc (by simp) _
    · simp
  case round =>
    obtain ⟨k, S, acc, v, hk, rfl, rfl, hS, hacc, hF, hsz, hown, hc0, hf0, hc1, hf1, hbr, hsr⟩ := hrel
    obtain ⟨⟨m, i, e⟩, HX⟩ : ∃ x, Box (CodeM.getNat S.data.toList = x) := ⟨_, ⟨rfl⟩⟩
    have HBr := box hbr; have Hown := box hown; have HF := box hF; have Hsz := box hsz; have Hacc := box hacc
    clear hbr hown hF hsz hacc
    clear hx0 hy0
    obtain ⟨B, HB⟩ : ∃ B, Box (w.heap.size = B) := ⟨_, ⟨rfl⟩⟩
    rw [HB.out] at hc0 hf0 hc1 hf1 hsr ⊢
    have Hown : Box (wr.ownsRow (B + 2) 64 2 v k (LeafM.cells acc)) := ⟨by rw [← HB.out]; exact Hown.out⟩
    have hsr0 : B < wr.heap.size := by omega
    have hsr1 : B + 1 < wr.heap.size := by omega
    have hn40 : n ≤ 40 := by have := Hn.out; omega
    by_cases hlt : k < n
    · have Herr : Box (LeafM.step S.data.toList = none → LeafM.read s.data.toList = none) := ⟨fun h => by
        have h1 := HF.out
        rw [show n - k = (n - k - 1) + 1 by omega, LeafM.readF, h] at h1
        rw [HR.out, ← h1]⟩
      have Hend : Box (∀ W : World, LeafM.step S.data.toList = none → Below w.heap.size w W → LeafM.ReadPost s w (.returned (.tuple #[.agg #[.slice none 0 0], .int .i64 4])) W) := ⟨fun W h hb => ⟨hb, Or.inl ⟨Herr.out h, rfl⟩⟩⟩
      go_wp2_with fail
      refine (getNat_any S _ (by omega)).mono ?_
      rintro e' w' ⟨rfl, rfl⟩
      rw [HX.out]
      unfold CodeM.tup
      by_cases he : e = 0
      case neg =>
        have g1 : (e == 0) = false := by simp [he]
        have g2 : (e != 0) = true := by simp [he]
        have HN : Box (LeafM.step S.data.toList = none) := ⟨by unfold LeafM.step; rw [HX.out, if_pos (Or.inl he)]⟩
        clear he
        go_wp2_with fail
        refine bodyPost_ret (v := .tuple #[.agg #[.slice none 0 0], .int .i64 4]) (by simp [results, Try.results31, go_sem, hc0]) rfl (Hend.out _ HN.out (HBr.out.setCell (by rw [HB.out]; exact Nat.le_refl _) _))
      subst he
      obtain ⟨i1, i2, mb, _⟩ := CodeM.get_ok HX.out
      have i2 : i ≤ S.size := i2
      by_cases hm : 513 < m
      · have q1 : decide ((513 : Int) < (m : Int)) = true := by simp; omega
        have HN : Box (LeafM.step S.data.toList = none) := ⟨by unfold LeafM.step; rw [HX.out, if_pos (Or.inr (Or.inl hm))]⟩
        clear hm
        go_wp2_with fail
        refine bodyPost_ret (v := .tuple #[.agg #[.slice none 0 0], .int .i64 4]) (by simp [results, Try.results31, go_sem, hc0]) rfl (Hend.out _ HN.out (HBr.out.setCell (by rw [HB.out]; exact Nat.le_refl _) _))
      have q1 : decide ((513 : Int) < (m : Int)) = false := by simp; omega
      have hR1 : (S.extract i S.size).data.toList = S.data.toList.drop i := by
        have h := CodeM.extract_eq S i (S.size - i)
        rw [show i + (S.size - i) = S.size by omega] at h
        rw [h]
        exact List.take_of_length_le (by rw [List.length_drop]; exact Nat.le_refl _)
      have hR2 : (S.extract i S.size).size = S.size - i := by simp
      have HR1 := box hR1; have HR2 := box hR2
      clear hR1 hR2
      by_cases h0 : 0 < m
      · have q2 : decide (0 < m) = true := by simp; omega
        by_cases hsh : S.size - i < m - 1
        · have q3 : decide ((S.size : Int) - (i : Int) < (m : Int) - 1) = true := by simp; omega
          have HN : Box (LeafM.step S.data.toList = none) := ⟨by unfold LeafM.step; rw [HX.out, if_pos (Or.inr (Or.inr ⟨h0, hsh⟩))]⟩
          clear hsh
          go_wp2_with fail
          refine bodyPost_ret (v := .tuple #[.agg #[.slice none 0 0], .int .i64 4]) (by simp [results, Try.results31, go_sem, hc0]) rfl (Hend.out _ HN.out (HBr.out.setCell (by rw [HB.out]; exact Nat.le_refl _) _))
        · have q3 : decide ((S.size : Int) - (i : Int) < (m : Int) - 1) = false := by simp; omega
          obtain ⟨R, HRR⟩ : ∃ R, Box (S.extract i S.size = R) := ⟨_, ⟨rfl⟩⟩
          rw [HRR.out] at HR1 HR2
          have hm1 : (1 : Int) ≤ (m : Int) := by omega
          have hr1 : (m : Int) - 1 ≤ (R.size : Int) := by have := HR2.out; omega
          go_wp2_with fail
          rw [HRR.out]
          go_region
          obtain ⟨T, HT⟩ : ∃ T, Box (R.extract 0 (m - 1) = T) := ⟨_, ⟨rfl⟩⟩
          rw [HT.out]
          have hst : Box (LeafM.step S.data.toList = some ((true, T), (R.extract (m - 1) R.size).data.toList)) := ⟨by
            have e1 : (R.extract (m - 1) R.size).data.toList = R.data.toList.drop (m - 1) := by
              have h := CodeM.extract_eq R (m - 1) (R.size - (m - 1))
              rw [show m - 1 + (R.size - (m - 1)) = R.size by have := HR2.out; omega] at h
              rw [h]
              exact List.take_of_length_le (by rw [List.length_drop]; exact Nat.le_refl _)
            have e2 : T = ⟨(R.data.toList.take (m - 1)).toArray⟩ := by
              rw [← HT.out]
              have h := CodeM.extract_eq R 0 (m - 1)
              rw [Nat.zero_add] at h
              rw [h]; rfl
            unfold LeafM.step
            rw [HX.out, if_neg (by
              have hl : S.data.toList.length = S.size := rfl
              simp [h0]; omega), if_pos h0, e1, e2, HR1.out]⟩
          have hTs : T.size ≤ 512 := by rw [← HT.out]; simp; omega
          have hSs : Box ((R.extract (m - 1) R.size).size ≤ S.size) := ⟨by have := HR2.out; simp; omega⟩
          have hown2 := ((Hown.out.alloc (.cells #[.bool true, .string T] 64)).alloc (.cells #[.bool true, .string T] 64)).drew
          go_wp2_with (at_builtin; go_must (refine wpList_append_own _ rfl _ _ 49 rfl (B + 2) 64 i0 _ 2 24 Try.underlying49 hi hz0 hz1 hz2 rfl (by decide) _ _ _ rfl hown2 ⟨wr.heap.size + 1, 0, none⟩ 1 1 [.bool true, .string T] rfl rfl (by have h := cells_new (wr.alloc (.cells #[.bool true, .string T] 64)) [.bool true, .string T] 64; rw [World.size_alloc] at h; exact h) (by simp [Value.oneCell']) (by unfold maxLen; omega) (by omega) (by simp; omega) ?_))
          intro v' w2 hown3 hgrow hv'
          obtain ⟨g, cap, hve, hg1, hg2, hg3⟩ := ownsRow_shape hown3 hv'
          rw [hve] at hown3 ⊢
          have HRel := box (LeafM.RRel_next (S' := R.extract (m - 1) R.size) hlt hS Hacc.out HF.out Hsz.out (x := (true, T)) hst.out hSs.out hTs
            ((((HB.out ▸ HBr.out).alloc (by omega) _).alloc (by rw [World.size_alloc]; omega) _).drew) (by show B + 2 ≤ ((wr.alloc (.cells #[.bool true, .string T] 64)).alloc (.cells #[.bool true, .string T] 64)).heap.size; rw [World.size_alloc, World.size_alloc]; omega) (by go_simp) (by go_simp) (by go_simp) (by go_simp) (fun b hb => (Hown.out.lt b hb).1) hown3 hgrow)
          obtain ⟨c1, f1⟩ := HRel.out.1
          clear hown3 hgrow hv' hve hown2 hc0 hc1 hf0 hf1
          go_wp2_with fail
          go_roundw
          case rel => exact HRel.out.2
          case measure => simp [intOf]; omega
      · have q2 : decide (0 < m) = false := by simp; omega
        have hown2 := (Hown.out.alloc (.cells #[.bool false, .string { data := #[] }] 64)).alloc (.cells #[.bool false, .string { data := #[] }] 64)
        go_wp2_with (at_builtin; go_must (refine wpList_append_own _ rfl _ _ 49 rfl (B + 2) 64 i0 _ 2 24 Try.underlying49 hi hz0 hz1 hz2 rfl (by decide) _ _ _ rfl hown2 ⟨wr.heap.size + 1, 0, none⟩ 1 1 [.bool false, .string { data := #[] }] rfl rfl (by have h := cells_new (wr.alloc (.cells #[.bool false, .string { data := #[] }] 64)) [.bool false, .string { data := #[] }] 64; rw [World.size_alloc] at h; exact h) (by simp [Value.oneCell']) (by unfold maxLen; omega) (by omega) (by simp; omega) ?_))
        intro v' w2 hown3 hgrow hv'
        obtain ⟨g, cap, hve, hg1, hg2, hg3⟩ := ownsRow_shape hown3 hv'
        rw [hve] at hown3 ⊢
        have HRel := box (LeafM.RRel_next (S' := S.extract i S.size) hlt hS Hacc.out HF.out Hsz.out (x := (false, { data := #[] })) (by unfold LeafM.step; rw [HX.out, if_neg (by simp; omega), if_neg h0, HR1.out]) (by rw [HR2.out]; omega) (by decide)
          ((((HB.out ▸ HBr.out).alloc (by omega) _).alloc (by rw [World.size_alloc]; omega) _)) (by rw [World.size_alloc, World.size_alloc]; omega) (by go_simp) (by go_simp) (by go_simp) (by go_simp) (fun b hb => (Hown.out.lt b hb).1) hown3 hgrow)
        obtain ⟨c1, f1⟩ := HRel.out.1
        clear hown3 hgrow hv' hve hown2 hc0 hc1 hf0 hf1
        go_wp2_with fail
        go_roundw
        case rel => exact HRel.out.2
        case measure => simp [intOf]; omega
    · have hkn : k = n := by omega
      have HF' : Box (LeafM.read s.data.toList = if S.data.toList ≠ [] ∨ LeafM.check acc ≠ 0 then none else some acc) := ⟨by
        have h1 := HF.out
        rw [show n - k = 0 by omega, LeafM.readF] at h1
        rw [HR.out, ← h1]⟩
      by_cases hz : S.size = 0
      case neg =>
        have q1 := LeafM.str_full hz
        have q2 : (!S.toList.isEmpty) = true := by rw [q1]; rfl
        have HN : Box (LeafM.read s.data.toList = none) := ⟨by rw [HF'.out, if_pos (Or.inl (by intro h; have h2 : S.data.toList.length = S.size := rfl; rw [h] at h2; exact hz h2.symm))]⟩
        clear hz
        go_wp2_with fail
        refine bodyPost_ret (v := .tuple #[.agg #[.slice none 0 0], .int .i64 4]) (by simp [results, Try.results31, go_sem, hc0]) rfl ⟨HBr.out.setCell (by rw [HB.out]; exact Nat.le_refl _) _, Or.inl ⟨HN.out, rfl⟩⟩
      have q1 := LeafM.str_empty hz
      have q2 : (!S.toList.isEmpty) = false := by rw [q1]; rfl
      have HE : Box (S.data.toList = []) := ⟨List.eq_nil_of_length_eq_zero hz⟩
      have Hkn := box hkn
      have hsh : ∃ ao cap, v = .slice ao acc.length cap ∧ LeafM.At wr ao acc ∧ (∀ a, ao = some a → B + 2 ≤ a.block) := by
        rcases Hown.out.2 with ⟨h1, h2⟩ | ⟨g, cap, cur, h1, h2, h3, h4, _⟩
        · have : acc = [] := List.eq_nil_of_length_eq_zero (by rw [Hacc.out]; exact h2)
          subst this
          exact ⟨none, 0, h1, Or.inl rfl, by simp⟩
        · have ho := Hown.out
          rw [h1] at ho
          exact ⟨_, cap, by rw [h1, Hacc.out], Or.inr ⟨g, 0, rfl, (Array.getElem?_eq_some_iff.1 h3).1, LeafM.owns_slots ho Hacc.out.symm⟩, by intro a ha; rw [← Option.some.inj ha]; exact h2⟩
      obtain ⟨ao, cap, rfl, hat, hab⟩ := hsh
      have hfit : LeafM.Fits acc := ⟨by have := Hacc.out; omega, fun x hx => by have := Hsz.out x hx; omega⟩
      have Hfit := box hfit; have Hat := box hat; have Hab := box hab
      clear hfit hat hab hkn hz
      go_wp2_with fail
      refine (check_any acc ao cap _ Hat.out Hfit.out).mono ?_
      rintro e' w3 ⟨rfl, hb3⟩
      have c0 := (hb3.cell (p := ⟨B, 0, none⟩) hsr0).trans hc0
      have f0 := (hb3.frozen (p := ⟨B, 0, none⟩) hsr0).trans hf0
      have c1 := (hb3.cell (p := ⟨B + 1, 0, none⟩) hsr1).trans hc1
      have Hat3 : Box (LeafM.At w3 ao acc) := ⟨Hat.out.below hb3 (Nat.le_refl _)⟩
      have HB3 : Box (Below B w w3) := ⟨(HB.out ▸ HBr.out).trans (hb3.mono (by omega))⟩
      clear hb3 hc0 hc1 hf0 hf1
      obtain ⟨c, HC⟩ : ∃ c, Box (LeafM.check acc = c) := ⟨_, ⟨rfl⟩⟩
      rw [HC.out]
      by_cases h0 : c = 0
      · subst h0
        have HN : Box (LeafM.read s.data.toList = some acc) := ⟨by rw [HF'.out, if_neg (by rw [HE.out, HC.out]; simp)]⟩
        go_wp2_with fail
        refine bodyPost_ret (v := .tuple #[.agg #[.slice ao acc.length cap], .int .i64 0]) (by simp [results, Try.results31, go_sem, c0]) rfl ⟨by rw [HB.out]; exact HB3.out.setCell (Nat.le_refl _) _, Or.inr ⟨acc, ao, cap, HN.out, rfl, ?_, Hfit.out⟩⟩
        rcases Hat3.out with h | ⟨b, off, h1, h2, h3⟩
        · exact Or.inl h
        · have hbB : b ≠ B := by have := Hab.out _ h1; simp only at this; omega
          exact Or.inr ⟨b, off, h1, by rw [World.size_setCell]; exact h2, fun k hk => ⟨by rw [LeafM.cell_other (Ne.symm hbB)]; exact (h3 k hk).1, by rw [LeafM.cell_other (Ne.symm hbB)]; exact (h3 k hk).2⟩⟩
      · have g1 : (c == 0) = false := by simp [h0]
        have g2 : (c != 0) = true := by simp [h0]
        have HN : Box (LeafM.read s.data.toList = none) := ⟨by rw [HF'.out, if_pos (Or.inr (by rw [HC.out]; exact h0))]⟩
        clear h0
        go_wp2_with fail
        refine bodyPost_ret (v := .tuple #[.agg #[.slice none 0 0], .int .i64 4]) (by simp [results, Try.results31, go_sem, c0]) rfl ⟨by rw [HB.out]; exact HB3.out.setCell (Nat.le_refl _) _, Or.inl ⟨HN.out, rfl⟩⟩
end Go.Proofs.Ytjkgfjnfikcmhaa
