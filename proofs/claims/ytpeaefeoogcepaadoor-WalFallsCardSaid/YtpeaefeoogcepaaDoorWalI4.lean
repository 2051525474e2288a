/- WalFalls: Reset, in plain Lean. -/
import Derived.Test.YtpeaefeoogcepaaDoorWalI3
namespace Go.Proofs.YtpeaefeoogcepaaDoor
open Go.RowKit Go.Lib
open WalM

namespace WalM
theorem poss_anchor {d : DiskM} {t : ByteArray} (h : SectM.wrote d ((2 : Nat) : Int) t = 0) (x : Nat) (c : List UInt8) : Poss (SectM.write d ((2 : Nat) : Int) t) 2 20 x c ↔ Poss d 2 20 x c := by
  unfold Poss
  constructor
  · rintro ⟨a, b, y, hy, rfl⟩
    rw [may_write h, if_neg (by omega)] at hy
    exact ⟨a, b, y, hy, rfl⟩
  · rintro ⟨a, b, y, hy, rfl⟩
    exact ⟨a, b, y, by rw [may_write h, if_neg (by omega)]; exact hy, rfl⟩
theorem Norm.told {d : DiskM} {l : LogM} {all : List (List UInt8)} {safe : Nat} (h : Norm d l all safe) {C : Nat → List UInt8} (c1 : ∀ x, 1 ≤ x → x < 20 → Poss d 2 20 x (C x)) (c2 : ∀ x, (C x).length = 64) (c3 : ∀ x, ¬ (1 ≤ x ∧ x < 20) → C x = List.replicate 64 0) :
    ∃ rs, Told 20 l.ep rs C ∧ safe ≤ (rs.map Rcd.t).length ∧ rs.map Rcd.t <+: all := by
  obtain ⟨old, new, k, O, hj, hs, h1, h2, h3, h4⟩ := h.is
  obtain ⟨m, m1, m2, m3⟩ := hj.told c1 c2 c3
  refine ⟨_, m3, ?_, ?_⟩
  · rw [List.length_map, List.length_append, List.length_take]; omega
  · rw [h3, List.map_append, List.map_append, List.map_take]
    exact (List.prefix_append_right_inj _).2 (List.take_prefix _ _)
theorem Norm.view_in {d : DiskM} {l : LogM} {all : List (List UInt8)} {safe : Nat} (h : Norm d l all safe) {x : Nat} (h1 : 1 ≤ x) (h2 : x < 20) : Poss d 2 20 x (view d 2 20 x) := by
  obtain ⟨old, new, k, O, hj, hs, _⟩ := h.is
  exact hs.in_ x h1 h2
theorem flushed_is (d : DiskM) : SectM.flushed d = if d.left = 0 then 13 else 0 := rfl
/-- Reset, on a log that stands. -/
theorem Norm.reset {d : DiskM} {l : LogM} {all : List (List UInt8)} {safe : Nat} (h : Norm d l all safe) (t : List UInt8) {r : DiskM × LogM × Int} (hr : resetM d l t = r) :
    (r.2.2 = 0 ∧ Norm r.1 r.2.1 [t] 1) ∨ ((r.2.2 = 2 ∨ r.2.2 = 8) ∧ r.1 = d ∧ r.2.1 = l) ∨
    (r.2.2 = 13 ∧ Fell r.1 r.2.1 fun ts => (safe ≤ ts.length ∧ ts <+: all) ∨ ts = [t]) := by
  have hat := h.at_le
  have hla := h.late
  have hg := h.good
  unfold resetM at hr
  rw [if_neg (by rw [h.fell]; simp)] at hr
  by_cases ht : 300 < t.length
  · rw [if_pos ht] at hr; subst hr; exact Or.inr (Or.inl ⟨Or.inl rfl, rfl, rfl⟩)
  rw [if_neg ht] at hr
  by_cases hn : 1 < (sectors (l.ep + 1) 0 t).length
  · rw [if_pos hn] at hr; subst hr; exact Or.inr (Or.inl ⟨Or.inr rfl, rfl, rfl⟩)
  rw [if_neg hn] at hr
  by_cases hm : 1000000 ≤ l.ep
  · have e : raiseM d l = (d, l, 8) := by unfold raiseM; rw [if_pos hm]
    rw [e, if_pos (by show (8 : Int) ≠ 0; decide)] at hr
    subst hr; exact Or.inr (Or.inl ⟨Or.inr rfl, rfl, rfl⟩)
  have e0 := h.e0
  by_cases hl0 : d.left = 0
  · have w1 : SectM.wrote d ((2 : Nat) : Int) (BA (anchor (l.ep + 1))) = 13 := by rw [wrote_dn hg (by omega) (anchor_fits _), if_pos hl0]
    have e : raiseM d l = (d, fallL l 13, 13) := by
      unfold raiseM
      rw [h.frm, if_neg hm, if_pos (by rw [w1]; decide), write_bad (by rw [w1]; decide), w1]
    rw [e, if_pos (by show (13 : Int) ≠ 0; decide)] at hr
    subst hr
    exact Or.inr (Or.inr ⟨rfl, hg, by unfold fallL; simp, by show d.late.length ≤ 100; omega, h.falls.mono fun ts => Or.inl⟩)
  have w1 : SectM.wrote d ((2 : Nat) : Int) (BA (anchor (l.ep + 1))) = 0 := (wrote_0 hg (by omega) (anchor_fits _)).2 hl0
  by_cases hl1 : d.left = 1
  · have w2 : SectM.flushed (SectM.write d ((2 : Nat) : Int) (BA (anchor (l.ep + 1)))) = 13 := by
      rw [flushed_is, left_write w1, if_pos (by omega)]
    have e : raiseM d l = (SectM.write d ((2 : Nat) : Int) (BA (anchor (l.ep + 1))), fallL l 13, 13) := by
      unfold raiseM
      rw [h.frm, if_neg hm, if_neg (by rw [w1]; simp), if_pos (by rw [w2]; decide), flush_bad (by rw [w2]; decide), w2]
    rw [e, if_pos (by show (13 : Int) ≠ 0; decide)] at hr
    subst hr
    refine Or.inr (Or.inr ⟨rfl, SectM.write_good hg _ _, by unfold fallL; simp, ?_, l.ep, h.e0, h.e1, fun b hb => ?_, fun C c1 c2 c3 => ?_⟩)
    · show (SectM.write d ((2 : Nat) : Int) (BA (anchor (l.ep + 1)))).late.length ≤ 100
      rw [late_write w1]; omega
    · have hb2 : b ∈ may (SectM.write d ((2 : Nat) : Int) (BA (anchor (l.ep + 1)))) 2 := hb
      rw [may_write w1, if_pos rfl] at hb2
      rcases List.mem_append.1 hb2 with hb3 | hb3
      · exact ⟨l.ep, h.anc b hb3, Int.le_refl _, h.e1⟩
      · rw [List.mem_singleton] at hb3
        exact ⟨l.ep + 1, by rw [hb3, pad_is]; exact epoch_anchor (by omega) (by omega), by omega, by omega⟩
    · obtain ⟨rs, h1, h2⟩ := h.told (fun x a b => (poss_anchor w1 x _).1 (c1 x a b)) c2 c3
      exact ⟨rs, h1, Or.inl h2⟩
  obtain ⟨e, _, w2⟩ := raise_ok hg h.frm (by omega) hl0 hl1
  rw [e] at hr
  dsimp only at hr
  rw [if_neg (by simp), show (l.frm : Int) + 1 = ((2 + 1 : Nat) : Int) by rw [h.frm]; rfl] at hr
  generalize hd1 : SectM.flush (SectM.write d ((2 : Nat) : Int) (BA (anchor (l.ep + 1)))) = d1 at hr
  have hg1 : SectM.Good 24 d1 := by rw [← hd1]; exact SectM.flush_good (SectM.write_good hg _ _)
  have hv1 : view d1 2 20 = view d 2 20 := by
    rw [← view_write2 hg w1, ← hd1]
    unfold view; rw [seen_flush]
  have hm1 : ∀ k, may d1 k = [d1.seen.getD k SectM.blank] := fun k => by rw [← hd1, may_flush w2, seen_flush]
  have ha1 : ∀ b ∈ may d1 2, epochOf b.data.toList = (l.ep + 1, 0) := fun b hb => by
    rw [hm1, List.mem_singleton, ← hd1, seen_flush, seen_write hg (by omega) w1, if_pos rfl] at hb
    rw [hb, pad_is]
    exact epoch_anchor (by omega) (by omega)
  have hla1 : d1.late = [] := by rw [← hd1]; exact late_flush w2
  have hp1 : ∀ x c, Poss d1 2 20 x c → 1 ≤ x ∧ x < 20 ∧ c = view d 2 20 x := fun x c hc => by
    obtain ⟨a, b, y, hy, rfl⟩ := hc
    rw [hm1, List.mem_singleton] at hy
    refine ⟨a, b, ?_⟩
    rw [← hv1, hy]; unfold view; rw [if_pos ⟨a, b⟩]
  obtain ⟨F, hF⟩ : ∃ F, sectors (l.ep + 1) 0 t = [F] := by
    have hp := sectors_pos (l.ep + 1) 0 t
    cases hsec : sectors (l.ep + 1) 0 t with
    | nil => rw [hsec] at hp; simp at hp
    | cons F r =>
      cases r with
      | nil => exact ⟨F, rfl⟩
      | cons G r => rw [hsec] at hn; simp at hn
  have hfs : firstS (l.ep + 1) t = F := by unfold firstS; rw [hF]; rfl
  have hF64 : F.length ≤ 64 := (sectors_form (e := l.ep + 1) (q := 0) (t := t) (by rw [hF]; exact List.mem_singleton_self _)).1
  rw [hfs] at hr
  have w3 := wrote_dn hg1 (a := 2 + 1) (by omega) (t := BA F) (by rw [BA_size]; exact hF64)
  have hT : ∀ C : Nat → List UInt8, (∀ x, 1 ≤ x → x < 20 → C x = view d 2 20 x) → (∀ x, (C x).length = 64) → (∀ x, ¬ (1 ≤ x ∧ x < 20) → C x = List.replicate 64 0) → ∃ rs, Told 20 (l.ep + 1) rs C ∧ safe ≤ (rs.map Rcd.t).length ∧ rs.map Rcd.t <+: all := fun C c1 c2 c3 => by
    obtain ⟨rs, h1, h2⟩ := h.told (C := C) (fun x a b => by rw [c1 x a b]; exact h.view_in a b) c2 c3
    exact ⟨rs, h1.more (by omega), h2⟩
  by_cases hl2 : d1.left = 0
  · rw [if_pos hl2] at w3
    rw [if_pos (by rw [w3]; decide), write_bad (by rw [w3]; decide), w3] at hr
    subst hr
    refine Or.inr (Or.inr ⟨rfl, hg1, by unfold fallL; simp, by show d1.late.length ≤ 100; rw [hla1]; exact Nat.zero_le _, l.ep + 1, by omega, by omega, fun b hb => ⟨l.ep + 1, ha1 b hb, Int.le_refl _, by omega⟩, fun C c1 c2 c3 => ?_⟩)
    obtain ⟨rs, h1, h2⟩ := hT C (fun x a b => (hp1 x _ (c1 x a b)).2.2) c2 c3
    exact ⟨rs, h1, Or.inl h2⟩
  rw [if_neg hl2] at w3
  rw [if_neg (by rw [w3]; simp)] at hr
  have hpw := poss_write w3 (by omega) (by omega)
  have hvw := view_write hg1 w3 (by omega) (by omega)
  have hg2 := SectM.write_good hg1 ((2 + 1 : Nat) : Int) (BA F)
  have hm2 : may (SectM.write d1 ((2 + 1 : Nat) : Int) (BA F)) 2 = may d1 2 := by rw [may_write w3, if_neg (by omega)]
  have hs2 : (SectM.write d1 ((2 + 1 : Nat) : Int) (BA F)).seen.getD 2 SectM.blank = d1.seen.getD 2 SectM.blank := by rw [seen_write hg1 (by omega) w3, if_neg (by omega)]
  have hl2w := late_write w3
  generalize hd2 : SectM.write d1 ((2 + 1 : Nat) : Int) (BA F) = d2 at *
  have hi : I64 (l.ep + 1) := by unfold I64; omega
  have hJ : ∀ P : Nat → List UInt8 → Prop, (∀ x c, P x c → (x = 1 ∧ c = pad F) ∨ (x ≠ 1 ∧ 1 ≤ x ∧ x < 20 ∧ c = view d 2 20 x)) → J 20 (l.ep + 1) [] [⟨l.ep + 1, t⟩] [] 1 P (view d 2 20) := fun P hP => by
    obtain ⟨old, new, k, O, hj, hs, _⟩ := h.is
    exact hj.reset hs (by omega) hi (by omega) (by rw [hF]; rfl) (s := pad F) (by rw [hF]; rfl) hP
  by_cases hf2 : SectM.flushed d2 = 0
  · rw [if_neg (by rw [hf2]; simp)] at hr
    subst hr
    have hv3 : view (SectM.flush d2) 2 20 = view d2 2 20 := by unfold view; rw [seen_flush]
    refine Or.inl ⟨rfl, SectM.flush_good hg2, h.frm, h.size, h.fell, by show 0 ≤ l.ep + 1; omega, by show l.ep + 1 ≤ 1000000; omega, ?_, fun b hb => ?_, ?_, [], [⟨l.ep + 1, t⟩], 1, view d 2 20, hJ _ ?_, ⟨fun j s hj => ?_, fun x a b => view_poss a b ?_, fun x => by rw [hv3]; exact view_len hg2 (by omega) x, fun x hx => view_zero hx⟩, ?_, rfl, rfl, by show 1 ≤ 0 + 1; omega⟩
    · show (SectM.flush d2).late.length ≤ 2
      rw [late_flush hf2]; exact Nat.zero_le _
    · have hb2 : b ∈ may (SectM.flush d2) 2 := hb
      rw [may_flush hf2, List.mem_singleton] at hb2
      refine ha1 b ?_
      rw [hb2, hs2, hm1]; exact List.mem_singleton_self _
    · show (SectM.flush d2).seen.getD 2 SectM.blank ∈ may (SectM.flush d2) 2
      rw [may_flush hf2, seen_flush]; exact List.mem_singleton_self _
    · intro x c hc
      obtain ⟨a, b, y, hy, rfl⟩ := hc
      have hy2 : y ∈ may (SectM.flush d2) (2 + x) := hy
      rw [may_flush hf2, List.mem_singleton] at hy2
      have e2 : y.data.toList = view d2 2 20 x := by rw [hy2]; unfold view; rw [if_pos ⟨a, b⟩]
      rw [e2, hvw x]
      by_cases hx : x = 1
      · exact Or.inl ⟨hx, by rw [if_pos hx]⟩
      · exact Or.inr ⟨hx, a, b, by rw [if_neg hx, hv1]⟩
    · show view (SectM.flush d2) 2 20 (1 + j) = s
      have hj2 : ((sectors (l.ep + 1) 0 t).map pad ++ [] ++ [])[j]? = some s := hj
      rw [hF, List.append_nil, List.append_nil] at hj2
      cases j with
      | zero =>
        have : pad F = s := by simpa using hj2
        rw [hv3, hvw, if_pos rfl, this]
      | succ j => simp at hj2
    · show (SectM.flush d2).seen.getD (2 + x) SectM.blank ∈ may (SectM.flush d2) (2 + x)
      rw [may_flush hf2, seen_flush]; exact List.mem_singleton_self _
    · show 2 = 1 + (sectors (l.ep + 1) 0 t).length
      rw [hF]; rfl
  · rw [if_pos hf2, flush_bad hf2] at hr
    have hf3 : SectM.flushed d2 = 13 := by
      rw [flushed_is] at hf2 ⊢
      split
      · rfl
      · rename_i h5; rw [if_neg h5] at hf2; exact absurd rfl hf2
    rw [hf3] at hr
    subst hr
    refine Or.inr (Or.inr ⟨rfl, hg2, by unfold fallL; simp, by show d2.late.length ≤ 100; rw [hl2w, hla1]; decide, l.ep + 1, by omega, by omega, fun b hb => ⟨l.ep + 1, ha1 b (hm2 ▸ hb), Int.le_refl _, by omega⟩, fun C c1 c2 c3 => ?_⟩)
    have hc : ∀ x, 1 ≤ x → x < 20 → C x = view d 2 20 x ∨ (x = 1 ∧ C x = pad F) := fun x a b => by
      rcases (hpw x (C x)).1 (c1 x a b) with h5 | h5
      · exact Or.inl (hp1 x _ h5).2.2
      · exact Or.inr h5
    by_cases h1 : C 1 = view d 2 20 1
    · obtain ⟨rs, h3, h4⟩ := hT C (fun x a b => by
        rcases hc x a b with h5 | ⟨h5, _⟩
        · exact h5
        · rw [h5]; exact h1) c2 c3
      exact ⟨rs, h3, Or.inl h4⟩
    · obtain ⟨m, m1, m2, m3⟩ := (hJ (fun x c => (x = 1 ∧ c = pad F) ∨ (x ≠ 1 ∧ 1 ≤ x ∧ x < 20 ∧ c = view d 2 20 x)) (fun x c h => h)).told (C := C) (fun x a b => by
        rcases hc x a b with h5 | h5
        · by_cases hx : x = 1
          · rw [hx] at h5; exact absurd h5 h1
          · exact Or.inr ⟨hx, a, b, h5⟩
        · exact Or.inl h5) c2 c3
      refine ⟨_, m3, Or.inr ?_⟩
      have hm : m = 1 := by simp at m2; omega
      rw [hm]; rfl
end WalM
end Go.Proofs.YtpeaefeoogcepaaDoor
