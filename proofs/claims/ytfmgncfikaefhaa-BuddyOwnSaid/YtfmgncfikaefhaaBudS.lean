/- buddy.Take's sort: what it leaves. -/
import Derived.Test.YtfmgncfikaefhaaSortOwn
import Derived.Test.YtfmgncfikaefhaaShBk
import Derived.Test.YtfmgncfikaefhaaBudF
namespace Go.Proofs.Ytfmgncfikaefhaa
open Go.RowKit Go.Lib Go.Sort

def BudM.enc (x : BkM) : List Value := [.int .i64 x.at_, .int .i64 x.ord]
def BudM.cf (x y : BkM) : Int := Lib.compareInt x.at_ y.at_
theorem BudM.ltOf_eq (x y : BkM) : ltOf BudM.cf x y = decide (x.at_ < y.at_) := by
  unfold ltOf BudM.cf Lib.compareInt
  by_cases h1 : x.at_ < y.at_
  · simp [h1]
  · by_cases h2 : y.at_ < x.at_ <;> simp [h1, h2]
theorem BudM.swo : SWO (ltOf BudM.cf) where
  irrefl x := by rw [BudM.ltOf_eq]; simp
  trans x y z h1 h2 := by rw [BudM.ltOf_eq] at *; simp at *; omega
  ntrans x y z h1 h2 := by rw [BudM.ltOf_eq] at *; simp at *; omega

set_option maxHeartbeats 1000000 in
theorem budCmp_any (x y : BkM) (W : World) : Calls Try.prog 53 #[.agg #[.int .i64 x.at_, .int .i64 x.ord], .agg #[.int .i64 y.at_, .int .i64 y.ord]] W fun e w' => e = .returned (.int .i64 (BudM.cf x y)) ∧ ∃ q os', w' = grow (W.drewN q) os' := by
  have hcon := fun W' => AnyG.cmp_Compare_int Try.cmpInt x.at_ y.at_ W'
  change ∀ W', Calls Try.prog 54 _ _ _ at hcon
  unfold BudM.cf
  generalize Lib.compareInt x.at_ y.at_ = r at hcon ⊢
  go_enter Try.func53, Try.ntmps53
  go_wp2_with (go_at_call 54; refine (hcon _).mono ?_; rintro e w' ⟨rfl, rfl⟩)
  go_ret
  exact ⟨rfl, 0, _, by rw [alloc_eq_grow, alloc_eq_grow, grow_grow]; rfl⟩

theorem budSort_any (l : List BkM) (g cap base : Nat) (w : World) (ho : w.ownsRow base 73 2 (.slice (some ⟨g, 0, none⟩) l.length cap) l.length (bkVals l)) (hg : g < w.heap.size) (hn : l.length ≤ 9000000000) :
    Calls Try.prog 52 #[.slice (some ⟨g, 0, none⟩) l.length cap, .func (.func 53) #[] #[]] w fun e w' =>
      e = .returned (.tuple #[]) ∧ ∃ l', l'.Perm l ∧ l'.Pairwise (fun x y => x.at_ ≤ y.at_) ∧ w'.ownsRow base 73 2 (.slice (some ⟨g, 0, none⟩) l.length cap) l.length (bkVals l') ∧ w.grownBy w' (some g) := by
  have hk : ∀ x, (BudM.enc x).length = 2 := fun _ => rfl
  have he : ∀ l : List BkM, l.flatMap BudM.enc = bkVals l := fun l => rfl
  have eg : ∀ args w, (callFunc 53 args).run Try.prog w = .ok (.enter 53 args) w := enters_of Try.func53 (by kernel_rfl) rfl
  have hH : HoldsK BudM.enc 2 w g 0 l.toArray := SortM.holds (base := base) (e := 73) (n := l.length) (cap := cap) hk (by rw [he]; exact ho)
  have hcon := AnyQ.slices_SortFunc Try.sortBk 2 Try.isAgg73 Try.sizeOf73 BudM.enc hk (fun x v hv => by simp [BudM.enc] at hv; rcases hv with rfl | rfl <;> rfl) BudM.cf BudM.swo 53 #[] g 0 cap l.toArray w eg (fun _ _ _ _ x y => budCmp_any x y _) hH hg (by simp; omega)
  change Calls Try.prog 52 _ _ _ at hcon
  rw [List.size_toArray] at hcon
  refine hcon.mono ?_
  rintro e w' ⟨rfl, d', n, os, hp, hs, rfl⟩
  obtain ⟨hsz, _, hperm⟩ := hp
  have hsz' : d'.size = l.length := by simpa using hsz
  have e1 : d'.extract 0 l.length = d' := by rw [← hsz']; simp
  have e2 : l.toArray.extract 0 l.length = l.toArray := by simp
  rw [e1, e2] at hperm
  refine ⟨rfl, d'.toList, hperm, ?_, ?_, ?_⟩
  · rw [List.pairwise_iff_getElem]
    intro i j hi hj hij
    have h1 := hs i j (Nat.zero_le _) hij (by simpa [hsz'] using hj)
    rw [BudM.ltOf_eq] at h1
    have hi' : i < d'.size := by simpa using hi
    have hj' : j < d'.size := by simpa using hj
    rw [getElem!_pos d' i hi', getElem!_pos d' j hj'] at h1
    simp only [decide_eq_false_iff_not] at h1
    rw [Array.getElem_toList, Array.getElem_toList]
    omega
  · rw [← he]
    have := SortM.after (l := l) (l' := d'.toList) (base := base) (e := 73) (n := l.length) (cap := cap) (g := g) (w := w) hk (by simpa using hsz') (by rw [he]; exact ho) n os
    simpa using this
  · have := SortM.grown (enc := BudM.enc) (k := 2) (w := w) (g := g) d'.toList n os
    simpa using this
end Go.Proofs.Ytfmgncfikaefhaa
