/- slices.BinarySearchFunc over a table of locks: what it finds; the closures of lock.Ask. -/
import Derived.Test.YtjbmkhalmmahkaaLkT
namespace Go.Proofs.Ytjbmkhalmmahkaa
open Go.RowKit Go.Lib

/-- Where an item stands in a table, or would stand. -/
structure LkM.Pos (t : List LiM) (item : Int) (p : Nat) : Prop where
  le : p ≤ t.length
  lo : ∀ k (h : k < t.length), k < p → t[k].item < item
  hi : ∀ k (h : k < t.length), p ≤ k → item ≤ t[k].item
def LkM.foundAt (t : List LiM) (item : Int) (p : Nat) : Bool := match t[p]? with | some x => x.item == item | none => false
def LkM.PosPost (t : List LiM) (item : Int) (w : World) (e : Ending) (w' : World) : Prop := ∃ p : Nat, LkM.Pos t item p ∧ e = .returned (.tuple #[.int .i64 (p : Int), .bool (LkM.foundAt t item p)]) ∧ Below w.heap.size w w'
set_option maxRecDepth 20000 in
set_option maxHeartbeats 2000000 in
theorem ask_f2 (W : World) (it item : Int) (ha qa : Option Addr) (hn hc qn qc : Nat) (h1 : 0 ≤ it ∧ it < 20) (h2 : 0 ≤ item ∧ item < 20) :
    Calls Try.prog 25 #[.agg #[.int .i64 it, .slice ha hn hc, .slice qa qn qc], .int .i64 item] W fun e w' => e = .returned (.int .i64 (it - item)) ∧ Below W.heap.size W w' := by
  obtain ⟨h3, h4⟩ := h1
  obtain ⟨h5, h6⟩ := h2
  go_enter Try.func25, Try.ntmps25
  go_wp2_with fail
  go_ret
  exact ⟨rfl, (Below.refl _ _).alloc (Nat.le_refl _) _⟩

set_option maxRecDepth 20000 in
set_option maxHeartbeats 4000000 in
theorem bsearch_any (t : List LiM) (item : Int) (ao : Option Addr) (cap lo : Nat) (w : World) (h : LisIn w lo ao t) (hs : t.length ≤ 20) (hr : t.Pairwise fun x y => x.item < y.item) (hd : ∀ x ∈ t, 0 ≤ x.item ∧ x.item < 20) (hi : 0 ≤ item ∧ item < 20) :
    Calls Try.prog 24 #[.slice ao t.length cap, .int .i64 item, .func (.func 25) #[] #[]] w (LkM.PosPost t item w) := by
  have H := box h; have HD := box hd; have HI := box hi; have HR := box (List.pairwise_iff_getElem.1 hr)
  clear h hr hd hi
  obtain ⟨N, HN⟩ : ∃ N, Box (t.length = N) := ⟨_, ⟨rfl⟩⟩
  have eg := enters_fn Try.func25 (by kernel_rfl) rfl
  rw [HN.out] at hs ⊢
  go_enter Try.func24, Try.ntmps24
  go_wp2_with fail
  go_loopw [9, 10] (fun t9 t10 wr => ∃ i j : Nat, i ≤ j ∧ j ≤ N ∧ t9 = .int .i64 (i : Int) ∧ t10 = .int .i64 (j : Int) ∧ Box ((∀ k (h : k < t.length), k < i → t[k].item < item) ∧ (∀ k (h : k < t.length), j ≤ k → item ≤ t[k].item) ∧ Below w.heap.size w wr)) (fun t9 t10 _ => (RowKit.intOf t10).toNat - (RowKit.intOf t9).toNat)
  case atStart => exact ⟨0, N, Nat.zero_le _, Nat.le_refl _, rfl, rfl, ⟨fun k _ h => by omega, fun k h h2 => by have := HN.out; omega, Below.refl _ _⟩⟩
  case round =>
    obtain ⟨i, j, hij, hj, rfl, rfl, HQ⟩ := hrel
    by_cases hlt : i < j
    · obtain ⟨m, hm⟩ : ∃ m : Nat, ((i : Int) + (j : Int)) / 2 = (m : Int) := ⟨(i + j) / 2, by omega⟩
      have hmi : i ≤ m := by omega
      have hmj : m < j := by omega
      have hml : m < t.length := by rw [HN.out]; omega
      obtain ⟨b, off, rfl, _, hb, hrow⟩ := (H.out.below HQ.out.2.2 (Nat.le_refl _)).resolve_left (by intro h; rw [h] at hml; simp at hml)
      obtain ⟨ha, hc, qa, qc, hli⟩ := hrow m hml
      have HDm := box (HD.out _ (List.getElem_mem hml))
      have HLo : Box (t[m].item < item → ∀ k (h : k < t.length), k < m + 1 → t[k].item < item) := ⟨fun e k h hk => by
        by_cases e2 : k = m
        · subst e2; exact e
        · exact Int.lt_trans (HR.out k m h hml (by omega)) e⟩
      have HHi : Box (¬ t[m].item < item → ∀ k (h : k < t.length), m ≤ k → item ≤ t[k].item) := ⟨fun e k h hk => by
        by_cases e2 : m = k
        · subst e2; omega
        · have := HR.out m k hml h (by omega); omega⟩
      generalize t[m] = x at *
      obtain ⟨it, held, queue⟩ := x
      obtain ⟨c0, c1, c2, _, _, _, _, _, _⟩ := hli
      dsimp only at c0 c1 c2 HDm HLo HHi
      generalize held.length = HL at *
      generalize queue.length = QL at *
      have hmN : m < N := by omega
      clear hrow
      go_wp2_with fail
      refine (ask_f2 wr it item ha qa HL hc QL qc HDm.out HI.out).mono ?_
      rintro e w5 ⟨rfl, hb5⟩
      have HB5 := box (below_tr HQ.out.2.2 hb5)
      clear hb5
      cases d0 : decide (it - item < 0) with
      | true =>
        have HNx := box (HLo.out (by have := of_decide_eq_true d0; omega))
        go_wp2_with fail
        go_roundw
        case rel => exact ⟨m + 1, j, by omega, hj, by go_num, rfl, ⟨HNx.out, HQ.out.2.1, HB5.out⟩⟩
        case measure => simp [RowKit.intOf]; omega
      | false =>
        have HNx := box (HHi.out (by have := of_decide_eq_false d0; omega))
        go_wp2_with fail
        go_roundw
        case rel => exact ⟨i, m, hmi, by omega, rfl, by go_num, ⟨HQ.out.1, HNx.out, HB5.out⟩⟩
        case measure => simp [RowKit.intOf]; omega
    · obtain rfl : i = j := by omega
      have HP : Box (LkM.Pos t item i) := ⟨⟨by rw [HN.out]; exact hj, HQ.out.1, HQ.out.2.1⟩⟩
      have HB := box HQ.out.2.2
      clear HQ
      by_cases hiN : i < N
      · have hil : i < t.length := by rw [HN.out]; exact hiN
        obtain ⟨b, off, rfl, _, hb, hrow⟩ := (H.out.below HB.out (Nat.le_refl _)).resolve_left (by intro h; rw [h] at hil; simp at hil)
        obtain ⟨ha, hc, qa, qc, hli⟩ := hrow i hil
        have HDm := box (HD.out _ (List.getElem_mem hil))
        have HF : Box (LkM.foundAt t item i = (t[i].item == item)) := ⟨by unfold LkM.foundAt; rw [List.getElem?_eq_getElem hil]⟩
        generalize t[i] = x at *
        obtain ⟨it, held, queue⟩ := x
        obtain ⟨c0, c1, c2, _, _, _, _, _, _⟩ := hli
        dsimp only at c0 c1 c2 HDm HF
        generalize held.length = HL at *
        generalize queue.length = QL at *
        have hq : ((it - item : Int) == 0) = (it == item) := by
          rw [show ((it - item : Int) == 0) = decide (it - item = 0) from rfl, show (it == item) = decide (it = item) from rfl]
          exact decide_eq_decide.2 (by omega)
        rw [← hq] at HF
        have d1 : decide (i < N) = true := by simpa using hiN
        clear hrow hq hlt
        go_wp2_with fail
        refine (ask_f2 wr it item ha qa HL hc QL qc HDm.out HI.out).mono ?_
        rintro e w5 ⟨rfl, hb5⟩
        have HB5 := box (below_tr HB.out hb5)
        clear hb5
        generalize it - item = df at *
        go_wp2_with fail
        go_ret2
        exact ⟨i, HP.out, by rw [HF.out]; rfl, HB5.out⟩
      · have HF : Box (LkM.foundAt t item i = false) := ⟨by unfold LkM.foundAt; rw [List.getElem?_eq_none (by rw [HN.out]; omega)]⟩
        have d1 : decide (i < N) = false := by simpa using hiN
        clear hlt
        go_wp2_with fail
        go_ret2
        exact ⟨i, HP.out, by rw [HF.out]; rfl, HB.out⟩
end Go.Proofs.Ytjbmkhalmmahkaa
