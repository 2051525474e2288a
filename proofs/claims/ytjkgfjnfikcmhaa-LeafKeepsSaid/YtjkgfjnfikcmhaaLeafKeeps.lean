/- LeafKeeps is proved for every input: what was put is there, in its slot, until it is dropped; all others stay where they are. -/
import Derived.Test.YtjkgfjnfikcmhaaLawKit
import Derived.Test.YtjkgfjnfikcmhaaLeafKeepsM
import Derived.Test.YtjkgfjnfikcmhaaLeafOpen
namespace Go.Proofs.Ytjkgfjnfikcmhaa
open Go.RowKit Go.Lib

def LeafM.PutX (w : World) (e : Ending) (w' : World) : Prop :=
  ∃ g cap, e = .returned (.tuple #[.agg #[.slice (some ⟨g, 0, none⟩) 1 cap], .int .i64 0, .int .i64 0]) ∧ Below w.heap.size w w'
theorem put_x (w : World) : Calls Try.prog 26 #[.agg #[.slice none 0 0], .string { data := #[120] }] w (LeafM.PutX w) := by
  refine (put_any [] none 0 _ w (Or.inl rfl) ⟨by simp, by simp⟩ (fun _ => rfl)).mono ?_
  rintro e w' ⟨hb, h | ⟨_, g, cap, he, _⟩⟩
  · exact absurd (show LeafM.putErr [] { data := #[120] } = 0 from by decide) h.1
  · exact ⟨g, cap, he, hb⟩

set_option maxRecDepth 20000 in
set_option maxHeartbeats 4000000 in
theorem leafKeeps_calls (ls : List (Bool × ByteArray)) (ao : Option Addr) (cap : Nat) (t : ByteArray) (k : Int) (w : World) (h : LeafM.At w ao ls) (hf : LeafM.Fits ls) (hnil : ao = none → cap = 0) (ht : t.size ≤ 140737488355328) :
    Calls Try.prog 9 #[.agg #[.slice ao ls.length cap], .string t, .int .i64 k] w fun e w' => e = .returned (.bool true) ∧ Below w.heap.size w w' := by
  have H := box h; have Hf := box hf; have Hnil := box hnil
  clear h hf hnil
  go_enter Try.func9, Try.ntmps9
  go_wp2_with fail
  have hx0 : (w.alloc (.cells #[.slice ao ls.length cap] 51)).cell? ⟨w.heap.size, 0, none⟩ = some (.slice ao ls.length cap) := by go_simp
  refine (put_x _).mono ?_
  rintro e w1 ⟨g0, cap0, rfl, hb1⟩
  have hc1 : w1.cell? ⟨w.heap.size, 0, none⟩ = some (.slice ao ls.length cap) := (hb1.cell (p := ⟨w.heap.size, 0, none⟩) (by simp)).trans hx0
  have HB1 : Box (Below w.heap.size w w1) := ⟨((Below.refl w.heap.size w).alloc (Nat.le_refl _) _).trans (hb1.mono (by simp))⟩
  have Hs1 : Box (w.heap.size < w1.heap.size) := ⟨by have := hb1.size; simp at this; omega⟩
  have hs1 := Hs1.out
  have hc1' : (w1.alloc (.cells #[.slice (some ⟨g0, 0, none⟩) 1 cap0] 51)).cell? ⟨w.heap.size, 0, none⟩ = some (.slice ao ls.length cap) := by rw [World.cell?_alloc_past (hn := hs1)]; exact hc1
  clear hb1 hx0 hs1
  go_wp2_with fail
  have HBa : Box (Below w.heap.size w (w1.alloc (.cells #[.slice (some ⟨g0, 0, none⟩) 1 cap0] 51))) := ⟨HB1.out.alloc (Nat.le_of_lt Hs1.out) _⟩
  have Hsa : Box (w.heap.size < (w1.alloc (.cells #[.slice (some ⟨g0, 0, none⟩) 1 cap0] 51)).heap.size) := ⟨by have := Hs1.out; simp; omega⟩
  clear hc1
  generalize (w1.alloc (.cells #[.slice (some ⟨g0, 0, none⟩) 1 cap0] 51)) = wa at *
  refine (put_any ls ao cap t _ (H.out.below HBa.out (Nat.le_refl _)) Hf.out Hnil.out).mono ?_
  rintro e w3 ⟨hb3, hp⟩
  have hc3 := (hb3.cell (p := ⟨w.heap.size, 0, none⟩) Hsa.out).trans hc1'
  have HB3 := box (HBa.out.trans (hb3.mono (Nat.le_of_lt Hsa.out)))
  have Hs3 := box (Nat.lt_of_lt_of_le Hsa.out hb3.size)
  clear hc1' hb3
  rcases hp with ⟨hne, rfl⟩ | ⟨heq, g, cap', rfl, hg, hown⟩
  · generalize LeafM.putErr ls t = c at *
    have g1 : (c == 0) = false := by simp [hne]
    have g2 : (c != 0) = true := by simp [hne]
    clear hne
    go_wp2_with fail
    go_ret
    exact ⟨rfl, HB3.out.alloc (Nat.le_of_lt Hs3.out) _⟩
  · obtain ⟨hck, ht5, hco⟩ := LeafM.check_out heq
    have c1 := (LeafM.check_le hck).1
    have o1 := (LeafM.check_le hco).1
    have hfo : Box (LeafM.Fits (LeafM.putOut ls t)) := ⟨by
      refine ⟨by omega, fun s hs => ?_⟩
      unfold LeafM.putOut at hs
      split at hs
      · exact (LeafM.fits_set Hf.out _ (true, t) (by show t.size ≤ _; omega)).2 s hs
      · exact (LeafM.fits_snoc Hf.out c1 (true, t) (by show t.size ≤ _; omega)).2 s hs⟩
    have Hown := box hown; have Hck := box hck; have Hco := box hco
    have hs3 := Hs3.out
    have hc4 : (w3.alloc (.cells #[.slice (some ⟨g, 0, none⟩) (LeafM.putOut ls t).length cap'] 51)).cell? ⟨w.heap.size, 0, none⟩ = some (.slice ao ls.length cap) := by rw [World.cell?_alloc_past (hn := hs3)]; exact hc3
    clear heq hown hck hco hg hc3 ht5 o1 hs3
    go_wp2_with fail
    have Hat4 : Box (LeafM.At (w3.alloc (.cells #[.slice (some ⟨g, 0, none⟩) (LeafM.putOut ls t).length cap'] 51)) (some ⟨g, 0, none⟩) (LeafM.putOut ls t)) :=
      ⟨Or.inr ⟨g, 0, rfl, by
        have := (Hown.out.lt g rfl).2
        simp; omega, LeafM.owns_slots (Hown.out.alloc _) rfl⟩⟩
    have hc4q : (w3.alloc (.cells #[.slice (some ⟨g, 0, none⟩) (LeafM.putOut ls t).length cap'] 51)).cell? ⟨w3.heap.size, 0, none⟩ = some (.slice (some ⟨g, 0, none⟩) (LeafM.putOut ls t).length cap') := by go_simp
    have HB4 : Box (Below w.heap.size w (w3.alloc (.cells #[.slice (some ⟨g, 0, none⟩) (LeafM.putOut ls t).length cap'] 51))) := ⟨HB3.out.alloc (Nat.le_of_lt Hs3.out) _⟩
    have Hs4 : Box (w3.heap.size < (w3.alloc (.cells #[.slice (some ⟨g, 0, none⟩) (LeafM.putOut ls t).length cap'] 51)).heap.size) := ⟨by simp⟩
    have HG1 := box (LeafM.get_put Hco.out)
    have HG2 := box (LeafM.get_old Hck.out)
    have HG3 := box (fun k hk => LeafM.get_other Hck.out Hco.out k hk)
    have HD := box (fun n (he : LeafM.Ends _ n) => LeafM.cut_put (t := t) Hck.out he)
    clear Hown
    generalize (w3.alloc (.cells #[.slice (some ⟨g, 0, none⟩) (LeafM.putOut ls t).length cap'] 51)) = w4 at *
    generalize LeafM.putOut ls t = os at *
    generalize LeafM.firstFree ls = a at *
    refine (leafGet_any os (some ⟨g, 0, none⟩) cap' (a : Int) _ Hat4.out hfo.out).mono ?_
    rintro e w5 ⟨rfl, hb5⟩
    rw [HG1.out]; unfold LeafM.tupG
    have hc5 := (hb5.cell (p := ⟨w.heap.size, 0, none⟩) (Nat.lt_trans Hs3.out Hs4.out)).trans hc4
    have hc5q := (hb5.cell (p := ⟨w3.heap.size, 0, none⟩) Hs4.out).trans hc4q
    have HB45 := box hb5
    have HB5 := box (HB4.out.trans (hb5.mono (Nat.le_of_lt (Nat.lt_trans Hs3.out Hs4.out))))
    have Hs5 := box (Nat.lt_of_lt_of_le Hs4.out hb5.size)
    clear hb5 hc4 hc4q
    go_wp2_with fail
    refine (leafGet_any ls ao cap (a : Int) _ (H.out.below HB5.out (Nat.le_refl _)) Hf.out).mono ?_
    rintro e w6 ⟨rfl, hb6⟩
    rw [HG2.out]; unfold LeafM.tupG
    have hc6 := (hb6.cell (p := ⟨w.heap.size, 0, none⟩) (Nat.lt_trans Hs3.out Hs5.out)).trans hc5
    have hc6q := (hb6.cell (p := ⟨w3.heap.size, 0, none⟩) Hs5.out).trans hc5q
    have HB46 := box (below_tr HB45.out hb6)
    have HB6 := box (HB5.out.trans (hb6.mono (Nat.le_of_lt (Nat.lt_trans Hs3.out Hs5.out))))
    have Hs6 := box (Nat.lt_of_lt_of_le Hs5.out hb6.size)
    clear hb6 hc5 hc5q
    go_wp2_with fail
    refine (leafDrop_any os (some ⟨g, 0, none⟩) cap' (a : Int) _ (Hat4.out.below HB46.out (Nat.le_refl _)) hfo.out (by simp)).mono ?_
    rintro e w7 ⟨hb7, hp⟩
    have hc7 := (hb7.cell (p := ⟨w.heap.size, 0, none⟩) (Nat.lt_trans Hs3.out Hs6.out)).trans hc6
    have hc7q := (hb7.cell (p := ⟨w3.heap.size, 0, none⟩) Hs6.out).trans hc6q
    have HB47 := box (below_tr HB46.out hb7)
    have HB7 := box (HB6.out.trans (hb7.mono (Nat.le_of_lt (Nat.lt_trans Hs3.out Hs6.out))))
    have Hs7 := box (Nat.lt_of_lt_of_le Hs6.out hb7.size)
    clear hb7 hc6 hc6q
    rcases hp with ⟨hne, _⟩ | ⟨_, gr, n, rfl, hends, hgr1, hgr2, hslr⟩
    · exact absurd (by rw [HG1.out]) hne
    obtain ⟨hn1, hn2⟩ := HD.out n hends
    rw [hn2] at hslr
    subst hn1
    have Hslr := box hslr; have Hgr := box hgr2
    clear hends hgr1 hgr2 hslr hn2
    have hs7 : w.heap.size < w7.heap.size := Nat.lt_trans Hs3.out Hs7.out
    have hs7q := Hs7.out
    have hc8 : (w7.alloc (.cells #[.slice (some ⟨gr, 0, none⟩) ls.length ls.length] 51)).cell? ⟨w.heap.size, 0, none⟩ = some (.slice ao ls.length cap) := by rw [World.cell?_alloc_past (hn := hs7)]; exact hc7
    have hc8q : (w7.alloc (.cells #[.slice (some ⟨gr, 0, none⟩) ls.length ls.length] 51)).cell? ⟨w3.heap.size, 0, none⟩ = some (.slice (some ⟨g, 0, none⟩) os.length cap') := by rw [World.cell?_alloc_past (hn := hs7q)]; exact hc7q
    clear hs7 hs7q hc7 hc7q
    go_wp2_with fail
    have HatR : Box (LeafM.At (w7.alloc (.cells #[.slice (some ⟨gr, 0, none⟩) ls.length ls.length] 51)) (some ⟨gr, 0, none⟩) ls) :=
      ⟨Or.inr ⟨gr, 0, rfl, by have := Hgr.out; simp; omega, Hslr.out.below ((Below.refl w7.heap.size w7).alloc (Nat.le_refl _) _) Hgr.out⟩⟩
    have HB8 : Box (Below w.heap.size w (w7.alloc (.cells #[.slice (some ⟨gr, 0, none⟩) ls.length ls.length] 51))) := ⟨HB7.out.alloc (Nat.le_of_lt (Nat.lt_trans Hs3.out Hs7.out)) _⟩
    have HB48 : Box (Below w4.heap.size w4 (w7.alloc (.cells #[.slice (some ⟨gr, 0, none⟩) ls.length ls.length] 51))) := ⟨HB47.out.alloc HB47.out.size _⟩
    have Hs8 : Box (w3.heap.size < (w7.alloc (.cells #[.slice (some ⟨gr, 0, none⟩) ls.length ls.length] 51)).heap.size) := ⟨by have := Hs7.out; simp; omega⟩
    clear Hslr
    generalize (w7.alloc (.cells #[.slice (some ⟨gr, 0, none⟩) ls.length ls.length] 51)) = w8 at *
    refine (same_any ls ls (some ⟨gr, 0, none⟩) ao ls.length cap _ HatR.out (H.out.below HB8.out (Nat.le_refl _)) rfl (by omega)).mono ?_
    rintro e w9 ⟨rfl, hb9⟩
    rw [decide_eq_true (rfl : ls = ls)]
    have hc9 := (hb9.cell (p := ⟨w.heap.size, 0, none⟩) (Nat.lt_trans Hs3.out Hs8.out)).trans hc8
    have hc9q := (hb9.cell (p := ⟨w3.heap.size, 0, none⟩) Hs8.out).trans hc8q
    have HB49 := box (below_tr HB48.out hb9)
    have HB9 := box (HB8.out.trans (hb9.mono (Nat.le_of_lt (Nat.lt_trans Hs3.out Hs8.out))))
    have Hs9 := box (Nat.lt_of_lt_of_le Hs8.out hb9.size)
    clear hb9 hc8 hc8q
    go_wp2_with fail
    refine (leafGet_any ls ao cap k _ (H.out.below HB9.out (Nat.le_refl _)) Hf.out).mono ?_
    rintro e w10 ⟨rfl, hb10⟩
    unfold LeafM.tupG
    have hc10q := (hb10.cell (p := ⟨w3.heap.size, 0, none⟩) Hs9.out).trans hc9q
    have HB410 := box (below_tr HB49.out hb10)
    have HB10 := box (HB9.out.trans (hb10.mono (Nat.le_of_lt (Nat.lt_trans Hs3.out Hs9.out))))
    have Hs10 := box (Nat.lt_of_lt_of_le Hs9.out hb10.size)
    clear hb10 hc9 hc9q
    go_wp2_with fail
    refine (leafGet_any os (some ⟨g, 0, none⟩) cap' k _ (Hat4.out.below HB410.out (Nat.le_refl _)) hfo.out).mono ?_
    rintro e w11 ⟨rfl, hb11⟩
    unfold LeafM.tupG
    have HB11 := box (HB10.out.trans (hb11.mono (Nat.le_of_lt (Nat.lt_trans Hs3.out Hs10.out))))
    clear hb11 hc10q
    by_cases hk : k = (a : Int)
    · have q : (k == (a : Int)) = true := by simp [hk]
      clear hk
      go_wp2_with fail
      go_ret
      exact ⟨rfl, HB11.out⟩
    · have q : (k == (a : Int)) = false := by simp [hk]
      rw [HG3.out k hk]
      clear hk
      go_wp2_with fail
      go_ret
      exact ⟨rfl, HB11.out⟩
namespace lawLeafKeeps
open Go.ChangeShapes Go.WideShapes Go.ChangeAt Go.RowKit Go.ChangeMaps

set_option maxRecDepth 100000 in
theorem lifted (os : Os) (started : os.Started) (H : Type) (enc : TypeId × Value → H) :
    ReturnsInHanded {} Try.checked os 9 .any (Rows.leafKeepsSpec.pre6 enc Try.prog Try.f9 [] false) (Rows.leafKeepsSpec.post enc Try.prog Try.f9 false true false false) := by
  refine LawKit.law_lifted started (by kernel_rfl) Try.func9 rfl
    (fun ds h => by
      match ds, h with
      | [_, _, _], _ => rfl)
    rfl Try.underlying4 (by intro t ht; exact of_decide_eq_true (p := Try.prog.readableRec t = true ∧ t < Try.prog.types.size) (by revert t ht; decide +kernel))
    (ChangeSpec.witness6 (enc := enc) (C := Try.checked) false ⟨#[], #[.agg #[.slice none 0 0], .string ⟨#[]⟩, .int .i64 0], []⟩ 8 (by kernel_rfl) (by kernel_rfl) (by kernel_rfl) (by kernel_rfl)) ?_
  intro W base args ds ps hval hA hsz hlt hfz
  have hA' := hA
  rw [Try.params9] at hA hval
  obtain ⟨v0, vs0, d0, ds0, p0, q0, hargs, rfl, rfl, h0, r0⟩ := trodAll_cons hA
  obtain ⟨v1, vs1, d1, ds1, p1, q1, rfl, rfl, rfl, h1, r1⟩ := trodAll_cons r0
  obtain ⟨v2, vs2, d2, ds2, p2, q2, rfl, rfl, rfl, h2, r2⟩ := trodAll_cons r1
  obtain ⟨rfl, rfl, rfl⟩ := trodAll_nil r2
  obtain rfl : args = #[v0, v1, v2] := by cases args; simp_all
  go_open 1 text
  have hsz_text : text.size ≤ reachBytes := by have h := sized_string hsz (j := 1) (by rw [Try.params9]; rfl) rfl; rw [Array.length_toList] at h; exact h
  go_open 2 k
  obtain ⟨ao, cap, ls, rfl, hnil, hat, hfits, _, _⟩ := open_leaf (hval 0 _ _ rfl rfl) h0 (Open.weights_bound hsz (j := 0) (by rw [Try.params9]; rfl) rfl)
  refine (leafKeeps_calls ls ao cap text k W hat hfits hnil (by have := reachBytes_lt; omega)).mono ?_
  rintro e W' ⟨rfl, hb⟩
  exact ⟨rfl, hb⟩

theorem proved : Rows.LeafKeepsSaid :=
  OpenClaim.holds_of_wide 9 Try.f9 rfl rfl rfl rfl rfl rfl rfl ⟨rfl, rfl, rfl, rfl, rfl⟩ rfl rfl rfl rfl rfl (by kernel_rfl) Try.func9 (by kernel_rfl)
    (of_decide_eq_true (by kernel_rfl)) (by unfold Func.isWrapper; first | (rw [if_pos (by decide +kernel)]; kernel_rfl) | (rw [if_neg (by decide +kernel)]; exact ⟨rfl, rfl⟩))
    (fun os started H enc _ => lifted os started H enc)
end lawLeafKeeps
end Go.Proofs.Ytjkgfjnfikcmhaa
