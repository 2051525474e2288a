/- pact.New: what it answers. -/
import Derived.Test.YtnolidjjeknmmaaPactS
import Derived.Deep.OwnRows
namespace Go.Proofs.Ytnolidjjeknmmaa
open Go.RowKit Go.Lib

def PactM.fresh (n : Nat) : PactSt := ⟨0, List.replicate n 0, List.replicate n 0⟩
theorem PactM.fresh_good {n : Nat} (h1 : 1 ≤ n) (h8 : n ≤ 8) : PactM.Good (PactM.fresh n) := by
  have hz : ∀ i, (List.replicate n (0 : Int)).getD i 0 = 0 := fun i => by
    rw [List.getD_eq_getElem?_getD, List.getElem?_replicate]
    split <;> rfl
  refine ⟨by simpa [PactM.fresh] using h1, by simpa [PactM.fresh] using h8, by simp [PactM.fresh], by simp [PactM.fresh], by simp [PactM.fresh], fun i _ => ?_, fun h => by simp [PactM.fresh] at h, fun _ ⟨i, _, h⟩ => ?_⟩
  · simp only [PactM.fresh, hz]
    unfold PactM.okI
    omega
  · simp only [PactM.fresh, hz] at h
    omega
def PactM.NewPost (n : Int) (base : Nat) (e : Ending) (w' : World) : Prop :=
  (¬ (1 ≤ n ∧ n ≤ 8) ∧ e = .returned (.tuple #[.agg #[.int .i64 0, .slice none 0 0, .slice none 0 0], .int .i64 1])) ∨
  ((1 ≤ n ∧ n ≤ 8) ∧ ∃ v, e = .returned (.tuple #[v, .int .i64 0]) ∧ PactOut w' base (PactM.fresh n.toNat) v)
theorem made_ints (n : Nat) : (madeCells #[Value.int .i64 0] n).toList = intVals (List.replicate n 0) := by
  rw [toList_madeCells_one]; simp [intVals]
theorem own_made (w : World) (base n : Nat) (hb : base ≤ w.heap.size) (hn : n ≤ 8) : (w.alloc (.cells (madeCells #[Value.int .i64 0] n) 3)).ownsRow base 3 1 (.slice (some ⟨w.heap.size, 0, none⟩) n n) n (intVals (List.replicate n 0)) := by
  have h := World.ownsRow_lit (base := base) (e := 3) (size := 1) w (madeCells #[Value.int .i64 0] n) n hb (by unfold maxLen; omega) (by
    have h1 := congrArg List.length (made_ints n)
    rw [intVals_len, List.length_replicate, Array.length_toList] at h1
    omega)
  rw [made_ints] at h
  exact h

theorem fresh_out (w : World) (m : Nat) (hm : m ≤ 8) (A : Obj) (a b : Nat) (hab : (a = w.heap.size + 1 ∧ b = w.heap.size + 1 + 1) ∨ (a = w.heap.size + 1 + 1 ∧ b = w.heap.size + 1)) :
    PactOut (((w.alloc A).alloc (.cells (madeCells #[Value.int .i64 0] m) 3)).alloc (.cells (madeCells #[Value.int .i64 0] m) 3)).drew w.heap.size (PactM.fresh m) (.agg #[.int .i64 0, .slice (some ⟨a, 0, none⟩) m m, .slice (some ⟨b, 0, none⟩) m m]) := by
  have o1 := own_made (w.alloc A) w.heap.size m (by simp) hm
  have o2 := own_made ((w.alloc A).alloc (.cells (madeCells #[Value.int .i64 0] m) 3)) w.heap.size m (by simp; omega) hm
  rw [World.size_alloc] at o1
  rw [World.size_alloc, World.size_alloc] at o2
  have o1' := (o1.alloc (.cells (madeCells #[Value.int .i64 0] m) 3)).drew
  have o2' := o2.drew
  have hl : (List.replicate m (0 : Int)).length = m := List.length_replicate
  rcases hab with ⟨rfl, rfl⟩ | ⟨rfl, rfl⟩
  · exact ⟨⟨w.heap.size + 1, m, w.heap.size + 1 + 1, m, by simp only [PactM.fresh, hl], by omega, by simp only [PactM.fresh, hl]; exact o1', by simp only [PactM.fresh, hl]; exact o2'⟩⟩
  · exact ⟨⟨w.heap.size + 1 + 1, m, w.heap.size + 1, m, by simp only [PactM.fresh, hl], by omega, by simp only [PactM.fresh, hl]; exact o2', by simp only [PactM.fresh, hl]; exact o1'⟩⟩

set_option maxRecDepth 20000 in
set_option maxHeartbeats 4000000 in
theorem pactNew_any (n : Int) (w : World) :
    Calls Try.prog 19 #[.int .i64 n] w fun e w' => PactM.NewPost n w.heap.size e w' ∧ Below w.heap.size w w' := by
  by_cases hn : 1 ≤ n ∧ n ≤ 8
  case neg =>
    have HP : Box (∀ w', PactM.NewPost n w.heap.size (.returned (.tuple #[.agg #[.int .i64 0, .slice none 0 0, .slice none 0 0], .int .i64 1])) w') := ⟨fun w' => Or.inl ⟨hn, rfl⟩⟩
    cases d1 : decide (n < 1) with
    | true =>
      clear hn
      go_enter Try.func19, Try.ntmps19
      go_wp2_with fail
      refine bodyPost_ret (v := .tuple #[.agg #[.int .i64 0, .slice none 0 0, .slice none 0 0], .int .i64 1]) (by simp [results, Try.results19, go_sem]) rfl ⟨HP.out _, (Below.refl _ _).alloc (Nat.le_refl _) _⟩
    | false =>
      have d2 : decide (8 < n) = true := by simp at d1 ⊢; omega
      clear hn
      go_enter Try.func19, Try.ntmps19
      go_wp2_with fail
      refine bodyPost_ret (v := .tuple #[.agg #[.int .i64 0, .slice none 0 0, .slice none 0 0], .int .i64 1]) (by simp [results, Try.results19, go_sem]) rfl ⟨HP.out _, (Below.refl _ _).alloc (Nat.le_refl _) _⟩
  obtain ⟨m, rfl⟩ := Int.eq_ofNat_of_zero_le (show 0 ≤ n by omega)
  have HP : Box (∀ w' v, PactOut w' w.heap.size (PactM.fresh m) v → PactM.NewPost (m : Int) w.heap.size (.returned (.tuple #[v, .int .i64 0])) w') := ⟨fun w' v h => Or.inr ⟨hn, v, rfl, h⟩⟩
  have hm8 : m ≤ 8 := by omega
  have d1 : decide ((m : Int) < 1) = false := by simp; omega
  have d2 : decide ((8 : Int) < (m : Int)) = false := by simp; omega
  clear hn
  have hmk := run_make_row' (P := Try.prog) 25 3 (.int .i64 0) 8 Try.underlying25 IntsM.infoI rfl .i64 .i64 m (by omega) (by omega)
  go_enter Try.func19, Try.ntmps19
  go_wp2_with fail
  go_region
  · go_wp2_with fail
    refine bodyPost_ret (v := .tuple #[.agg #[.int .i64 0, .slice (some ⟨w.heap.size + 1, 0, none⟩) m m, .slice (some ⟨w.heap.size + 1 + 1, 0, none⟩) m m], .int .i64 0]) (by simp [results, Try.results19, go_sem]) rfl ⟨HP.out _ _ (fresh_out w m hm8 _ _ _ (Or.inl ⟨rfl, rfl⟩)), ((((Below.refl _ _).alloc (Nat.le_refl _) _).alloc (by simp) _).alloc (by simp; omega) _).drew⟩
  · go_wp2_with fail
    refine bodyPost_ret (v := .tuple #[.agg #[.int .i64 0, .slice (some ⟨w.heap.size + 1 + 1, 0, none⟩) m m, .slice (some ⟨w.heap.size + 1, 0, none⟩) m m], .int .i64 0]) (by simp [results, Try.results19, go_sem]) rfl ⟨HP.out _ _ (fresh_out w m hm8 _ _ _ (Or.inr ⟨rfl, rfl⟩)), ((((Below.refl _ _).alloc (Nat.le_refl _) _).alloc (by simp) _).alloc (by simp; omega) _).drew⟩
end Go.Proofs.Ytnolidjjeknmmaa
