/- RedoOwn: the walk. -/
import Derived.Test.YtfmgncfikaefhaaRedoN
import Derived.Test.YtfmgncfikaefhaaRecSpoil
import Derived.Test.YtfmgncfikaefhaaVerSpoil
import Derived.Test.YtfmgncfikaefhaaIntAmple
namespace Go.Proofs.Ytfmgncfikaefhaa
open Go.RowKit Go.Lib

theorem VersAt.grown' {w w' : World} {ao : Option Addr} {l : List (Int × ByteArray)} {row : Option Nat} (h : VersAt w ao l) (hg : w.grownBy w' row) (hr : ∀ b off, ao = some ⟨b, off, none⟩ → row ≠ some b) : VersAt w' ao l := by
  rcases h with h | ⟨b, off, h1, h2, h3⟩
  · exact Or.inl h
  · refine Or.inr ⟨b, off, h1, Nat.lt_of_lt_of_le h2 hg.size, fun k hk => ?_⟩
    obtain ⟨c0, c1⟩ := h3 k hk
    exact ⟨hg.cell c0 (fun e => hr b off h1 e.symm), hg.cell c1 (fun e => hr b off h1 e.symm)⟩
/-- Versions that a call answered, in memory of its own. -/
structure VerGot (w : World) (B : Nat) (ao : Option Addr) (cap : Nat) (l : List (Int × ByteArray)) : Prop where
  at_ : VersAt w ao l
  nil : ao = none → cap = 0
  old : ∀ b off r, ao = some ⟨b, off, r⟩ → B ≤ b
  len : l.length ≤ 900
theorem VerGot.after {w w' : World} {B : Nat} {ao : Option Addr} {cap : Nat} {l : List (Int × ByteArray)} (h : VerGot w B ao cap l) (hb : Below w.heap.size w w') : VerGot w' B ao cap l := ⟨h.at_.below hb (Nat.le_refl _), h.nil, h.old, h.len⟩
theorem VerGot.mono {w : World} {B B' : Nat} {ao : Option Addr} {cap : Nat} {l : List (Int × ByteArray)} (h : VerGot w B ao cap l) (hB : B' ≤ B) : VerGot w B' ao cap l := ⟨h.at_, h.nil, fun b off r e => Nat.le_trans hB (h.old b off r e), h.len⟩
theorem VerGot.grown {w w' : World} {B g : Nat} {ao : Option Addr} {cap : Nat} {l : List (Int × ByteArray)} (h : VerGot w B ao cap l) (hg : w.grownBy w' (some g)) (hb : g < B) : VerGot w' B ao cap l :=
  ⟨h.at_.grown' hg (fun b off e e2 => by injection e2 with e2; subst e2; have := h.old _ _ _ e; omega), h.nil, h.old, h.len⟩
theorem VerGot.ofOwn {w : World} {B n : Nat} {v : Value} {l : List (Int × ByteArray)} (h : w.ownsRow B 42 2 v n (vrVals l)) (hl : l.length ≤ 900) : ∃ ao cap, v = .slice ao l.length cap ∧ VerGot w B ao cap l := by
  obtain ⟨ao, cap, rfl, _, hat, hnil, _⟩ := VersAt.own h
  refine ⟨ao, cap, rfl, hat, hnil, fun b off r e => ?_, hl⟩
  subst e
  exact (h.lt b rfl).1
theorem VacM.keep_len {l : List (Int × ByteArray)} {act : List Int} {now : Int} {m : List (Int × ByteArray)} (h : m = (if VacM.chk l act now = 0 then VacM.keep l (act ++ [now]) else [])) : m.length ≤ 900 := by
  split at h
  · rename_i hc
    have h1 := (VacM.chk_iff.1 hc).len
    have h2 : (VacM.keep l (act ++ [now])).length ≤ l.length := List.length_filter_le _ _
    rw [h]; omega
  · rw [h]; simp

def RedoM.ex3 : List RecM := [⟨2, 0, 0, 0, 0⟩]
theorem RedoM.ex3_is : RedoM.check RedoM.ex3 = 0 ∧ (RedoM.recOut RedoM.ex3 RedoM.zero).length = 1 := by
  decide +kernel
theorem ex3_at {n : Nat} (w : World) (h : w.heap.size = n) : RecsAt (w.alloc (.cells #[.int .i64 2, .int .i64 0, .int .i64 0, .int .i64 0, .int .i64 0] 25)) (some ⟨n, 0, none⟩) RedoM.ex3 := by
  subst h
  refine Or.inr ⟨w.heap.size, 0, rfl, by simp, fun k hk => ?_⟩
  have hk3 : k < 1 := hk
  rcases (show k = 0 by omega) with rfl
  refine ⟨?_, ?_, ?_, ?_, ?_⟩ <;> go_simp <;> rfl
theorem own_anyN {w : World} {base e g n cap size : Nat} {xs : List Value} (h : w.ownsRow base e size (.slice (some ⟨g, 0, none⟩) n cap) n xs) {k : Nat} (hk : k ≤ cap) : ∃ ys, w.ownsRow base e size (.slice (some ⟨g, 0, none⟩) k cap) k ys := by
  rcases h.2 with ⟨h1, _⟩ | ⟨g', cap', cur, h1, h2, h3, h4, h5, h6, h7⟩
  · cases h1
  · simp only [Value.slice.injEq, Option.some.injEq, Addr.mk.injEq, and_true, true_and] at h1
    obtain ⟨rfl, rfl⟩ := h1
    have hks : k * size ≤ cap * size := Nat.mul_le_mul_right _ hk
    exact ⟨cur.toList.take (k * size), by rw [List.length_take, Array.length_toList]; omega, Or.inr ⟨g, cap, cur, rfl, h2, h3, hk, h5, h6, rfl⟩⟩

/-- What RedoOwn hands in: rows with room behind, and the two fillers. -/
structure ROwn (X : World) (B Bf Bo g1 g2 g3 : Nat) (l : List RecM) (v : List (Int × ByteArray)) (act : List Int) : Prop where
  f : Blk X Bf 25 [.int .i64 77, .int .i64 0, .int .i64 0, .int .i64 0, .int .i64 0]
  o : Blk X Bo 42 [.int .i64 77, .string ⟨#[]⟩]
  r : RecAmple X B g1 l ⟨77, 0, 0, 0, 0⟩
  s : VerAmple X B g2 v (77, ⟨#[]⟩)
  a : AmpleAt X B g3 act 77
theorem ROwn.after {X X' : World} {B Bf Bo g1 g2 g3 : Nat} {l : List RecM} {v : List (Int × ByteArray)} {act : List Int} (h : ROwn X B Bf Bo g1 g2 g3 l v act) (hb : Below X.heap.size X X') : ROwn X' B Bf Bo g1 g2 g3 l v act :=
  ⟨h.f.after hb, h.o.after hb, h.r.after hb, h.s.after hb, h.a.after hb⟩
theorem ROwn.alloc {X : World} {B Bf Bo g1 g2 g3 : Nat} {l : List RecM} {v : List (Int × ByteArray)} {act : List Int} (h : ROwn X B Bf Bo g1 g2 g3 l v act) (o : Obj) : ROwn (X.alloc o) B Bf Bo g1 g2 g3 l v act := h.after ((Below.refl _ _).alloc (Nat.le_refl _) o)

set_option maxRecDepth 100000 in
set_option maxHeartbeats 8000000 in
theorem redoOwn_calls (l : List RecM) (v : List (Int × ByteArray)) (act : List Int) (now : Int) (ao bo co : Option Addr) (cap cap1 cap2 : Nat) (w : World) (h : RecsAt w ao l) (h' : VersAt w bo v) (h'' : IntsAt w co act)
    (n0 : ao = none → cap = 0) (n1 : bo = none → cap1 = 0) (n2 : co = none → cap2 = 0) (hl : l.length ≤ 3518437208790) (hv : v.length ≤ 5864062014690) (ha : act.length ≤ 17592186043990) :
    Calls Try.prog 5 #[.slice ao l.length cap, .slice bo v.length cap1, .slice co act.length cap2, .int .i64 now] w fun e w' => e = .returned (.bool true) ∧ Below w.heap.size w w' := by
  have H := box h; have H1 := box h'; have H2 := box h''
  have HA1 : Box (∀ X, Below w.heap.size w X → Calls Try.prog 14 #[.slice ao l.length cap, .agg #[.int .i64 77, .int .i64 0, .int .i64 0, .int .i64 0, .int .i64 0]] X fun e w' => (∃ g, e = .returned (.slice (some ⟨g, 0, none⟩) l.length (l.length + 3)) ∧ X.heap.size ≤ g ∧ g < w'.heap.size ∧ RecAmple w' X.heap.size g l ⟨77, 0, 0, 0, 0⟩) ∧ Below X.heap.size X w') :=
    ⟨fun X hX => ampleRec_any l ⟨77, 0, 0, 0, 0⟩ ao cap X (h.below hX (Nat.le_refl _)) n0 (by omega)⟩
  have HA2 : Box (∀ X, Below w.heap.size w X → Calls Try.prog 15 #[.slice bo v.length cap1, .agg #[.int .i64 77, .string ⟨#[]⟩]] X fun e w' => (∃ g, e = .returned (.slice (some ⟨g, 0, none⟩) v.length (v.length + 3)) ∧ X.heap.size ≤ g ∧ g < w'.heap.size ∧ VerAmple w' X.heap.size g v (77, ⟨#[]⟩)) ∧ Below X.heap.size X w') :=
    ⟨fun X hX => ampleVer_any v (77, ⟨#[]⟩) bo cap1 X (h'.below hX (Nat.le_refl _)) n1 (by omega)⟩
  have HA3 : Box (∀ X, Below w.heap.size w X → Calls Try.prog 16 #[.slice co act.length cap2, .int .i64 77] X fun e w' => (∃ g, e = .returned (.slice (some ⟨g, 0, none⟩) act.length (act.length + 3)) ∧ X.heap.size ≤ g ∧ g < w'.heap.size ∧ AmpleAt w' X.heap.size g act 77) ∧ Below X.heap.size X w') :=
    ⟨fun X hX => ample_any act 77 co cap2 X (h''.below hX (Nat.le_refl _)) n2 (by omega)⟩
  have HT1 : Box (∀ X B g, Below w.heap.size w X → RecAmple X B g l ⟨77, 0, 0, 0, 0⟩ → Calls Try.prog 18 #[.slice (some ⟨g, 0, none⟩) l.length (l.length + 3), .slice ao l.length cap, .agg #[.int .i64 77, .int .i64 0, .int .i64 0, .int .i64 0, .int .i64 0]] X fun e w' => e = .returned (.bool true) ∧ Below X.heap.size X w') :=
    ⟨fun X B g hX hr => staysRec_any l ⟨77, 0, 0, 0, 0⟩ ao cap g B X (h.below hX (Nat.le_refl _)) hr (by omega)⟩
  have HT2 : Box (∀ X B g, Below w.heap.size w X → VerAmple X B g v (77, ⟨#[]⟩) → Calls Try.prog 19 #[.slice (some ⟨g, 0, none⟩) v.length (v.length + 3), .slice bo v.length cap1, .agg #[.int .i64 77, .string ⟨#[]⟩]] X fun e w' => e = .returned (.bool true) ∧ Below X.heap.size X w') :=
    ⟨fun X B g hX hr => staysVer_any v (77, ⟨#[]⟩) bo cap1 g B X (h'.below hX (Nat.le_refl _)) hr (by omega)⟩
  have HT3 : Box (∀ X B g, Below w.heap.size w X → AmpleAt X B g act 77 → Calls Try.prog 20 #[.slice (some ⟨g, 0, none⟩) act.length (act.length + 3), .slice co act.length cap2, .int .i64 77] X fun e w' => e = .returned (.bool true) ∧ Below X.heap.size X w') :=
    ⟨fun X B g hX hr => stays_any act 77 co cap2 g B X (h''.below hX (Nat.le_refl _)) hr (by omega)⟩
  have HRec : Box (∀ X B g, RecAmple X B g l ⟨77, 0, 0, 0, 0⟩ → Calls Try.prog 9 #[.slice (some ⟨g, 0, none⟩) l.length (l.length + 3), .agg (pgVals RedoM.zero).toArray] X fun e w' => RecoverGot X e w' ∧ Below X.heap.size X w') :=
    ⟨fun X B g hr => redoRecover_any l RedoM.zero (some ⟨g, 0, none⟩) (l.length + 3) X hr.at_ (fun e => by cases e) (by omega)⟩
  have HKeep : Box (∀ X B g g', VerAmple X B g v (77, ⟨#[]⟩) → AmpleAt X B g' act 77 → Calls Try.prog 17 #[.slice (some ⟨g, 0, none⟩) v.length (v.length + 3), .slice (some ⟨g', 0, none⟩) act.length (act.length + 3), .int .i64 now] X fun e w' => (∃ ko kc m c, e = .returned (.tuple #[.slice ko m.length kc, .int .i64 c]) ∧ VerGot w' X.heap.size ko kc m) ∧ Below X.heap.size X w') :=
    ⟨fun X B g g' hr hr' => (vacKeep_any v act now (some ⟨g, 0, none⟩) (some ⟨g', 0, none⟩) (v.length + 3) (act.length + 3) X hr.at_ hr'.ints (by omega) (by omega) (fun e => by cases e)).mono (fun e w' ⟨⟨ko, kc, m, h1, h2, h3, h4, h5, h6⟩, h7⟩ => ⟨⟨ko, kc, m, _, h1, h3, h5, h6, VacM.keep_len h2⟩, h7⟩)⟩
  have HSp1 : Box (∀ X B g, RecAmple X B g l ⟨77, 0, 0, 0, 0⟩ → Calls Try.prog 23 #[.slice (some ⟨g, 0, none⟩) l.length (l.length + 3), .agg #[.int .i64 77, .int .i64 0, .int .i64 0, .int .i64 0, .int .i64 0]] X (SpoilPost2 X g)) :=
    ⟨fun X B g hr => by
      obtain ⟨ys, hys⟩ := own_anyN hr (k := l.length) (by omega)
      exact spoilRec_any B g l.length (l.length + 3) ⟨77, 0, 0, 0, 0⟩ ys X hys (by omega)⟩
  have HSp2 : Box (∀ X B g, VerAmple X B g v (77, ⟨#[]⟩) → Calls Try.prog 24 #[.slice (some ⟨g, 0, none⟩) v.length (v.length + 3), .agg #[.int .i64 77, .string ⟨#[]⟩]] X (SpoilPost2 X g)) :=
    ⟨fun X B g hr => by
      obtain ⟨ys, hys⟩ := own_anyN hr (k := v.length) (by omega)
      exact spoilVer_any B g v.length (v.length + 3) (77, ⟨#[]⟩) ys X hys (by omega)⟩
  clear h h' h'' n0 n1 n2
  obtain ⟨n, HN⟩ : ∃ x, Box (l.length = x) := ⟨_, ⟨rfl⟩⟩
  obtain ⟨m, HM⟩ : ∃ x, Box (v.length = x) := ⟨_, ⟨rfl⟩⟩
  obtain ⟨k, HK⟩ : ∃ x, Box (act.length = x) := ⟨_, ⟨rfl⟩⟩
  rw [HN.out] at HA1 HT1 HRec HSp1 hl ⊢
  rw [HM.out] at HA2 HT2 HKeep HSp2 hv ⊢
  rw [HK.out] at HA3 HT3 HKeep ha ⊢
  go_enter Try.func5, Try.ntmps5
  go_wp2_with fail
  have HC := box (redoRecover_ok RedoM.ex3 RedoM.zero (some ⟨w.heap.size, 0, none⟩) 1 _ (ex3_at w rfl) (by simp) RedoM.ex3_is.1)
  have HBw := box ((Below.refl w.heap.size w).alloc (Nat.le_refl _) (.cells #[.int .i64 2, .int .i64 0, .int .i64 0, .int .i64 0, .int .i64 0] 25))
  generalize w.alloc (.cells #[.int .i64 2, .int .i64 0, .int .i64 0, .int .i64 0, .int .i64 0] 25) = W at *
  refine HC.out.mono ?_
  rintro e w' ⟨⟨v0, rfl, hown⟩, hb⟩
  obtain ⟨a8, c8, rfl, -, hat8, -, -⟩ := RecsAt.own hown
  rw [RedoM.ex3_is.2]
  clear hat8 hown HC
  have HW1 := box (below_tr HBw.out hb)
  clear hb HBw
  obtain ⟨P1, HP1⟩ : ∃ P, Box ((pgVals (RedoM.recPg RedoM.ex3 RedoM.zero)).toArray = P) := ⟨_, ⟨rfl⟩⟩
  rw [HP1.out]
  have hsz : (Try.prog.info? 28).map (·.size) = some P1.size := by rw [← HP1.out]; exact pg_size _
  have hone : P1.all (·.oneCell') = true := by rw [← HP1.out]; exact pg_one _
  have hlen : 40 = P1.size := by rw [← HP1.out, List.size_toArray, pgVals_len]
  go_upto_region 2 with (first | (refine wpList_store_new rfl 28 (.tmp 10) (.tmp 30) rfl P1 (by rfl) (by rfl) 28 _ hsz hlen hone ?_))
  have HW2 := box (HW1.out.alloc HW1.out.size (.cells P1 28))
  generalize w'.alloc (.cells P1 28) = W2 at *
  clear HW1 hsz hone hlen HP1
  go_upto_region 5 with (fail)
  refine name_world (fun W => Below w.heap.size w W ∧ Blk W W2.heap.size 25 [.int .i64 77, .int .i64 0, .int .i64 0, .int .i64 0, .int .i64 0] ∧ Blk W (W2.heap.size + 1) 42 [.int .i64 77, .string ⟨#[]⟩] ∧ W2.heap.size + 1 < W.heap.size)
    ⟨(HW2.out.alloc HW2.out.size _).alloc (by have := HW2.out.size; simp; omega) _, (Blk.new _ _ _).alloc _, Blk.new' (by simp) _ _, by simp⟩ ?_
  rintro X ⟨hbX, hfX, hoX, hsX⟩
  obtain ⟨Bf, HBf⟩ : ∃ x, Box (W2.heap.size = x) := ⟨_, ⟨rfl⟩⟩
  obtain ⟨Bo, HBo⟩ : ∃ x, Box (W2.heap.size + 1 = x) := ⟨_, ⟨rfl⟩⟩
  rw [HBo.out] at hoX hsX ⊢
  rw [HBf.out] at hfX ⊢
  have hbfo : Bf < Bo := by have := HBf.out; have := HBo.out; omega
  have HBX := box hbX; have HF := box hfX; have HO := box hoX
  have z0 := hfX.cell (i := 0) rfl
  have z1 := hfX.cell (i := 1) rfl
  have z2 := hfX.cell (i := 2) rfl
  have z3 := hfX.cell (i := 3) rfl
  have z4 := hfX.cell (i := 4) rfl
  have u0 := hoX.cell (i := 0) rfl
  have u1 := hoX.cell (i := 1) rfl
  have HS : Box (∀ wx, Below X.heap.size X wx → wx.cell? ⟨Bf, 0, none⟩ = some (.int .i64 77) ∧ wx.cell? ⟨Bf, 1, none⟩ = some (.int .i64 0) ∧ wx.cell? ⟨Bf, 2, none⟩ = some (.int .i64 0) ∧ wx.cell? ⟨Bf, 3, none⟩ = some (.int .i64 0) ∧ wx.cell? ⟨Bf, 4, none⟩ = some (.int .i64 0) ∧
      wx.cell? ⟨Bo, 0, none⟩ = some (.int .i64 77) ∧ wx.cell? ⟨Bo, 1, none⟩ = some (.string ⟨#[]⟩)) := ⟨fun wx hx => ⟨(HF.out.after hx).cell rfl, (HF.out.after hx).cell rfl, (HF.out.after hx).cell rfl, (HF.out.after hx).cell rfl, (HF.out.after hx).cell rfl, (HO.out.after hx).cell rfl, (HO.out.after hx).cell rfl⟩⟩
  have HA1' : Box (∀ Y, Below X.heap.size X Y → Calls Try.prog 14 #[.slice ao n cap, .agg #[.int .i64 77, .int .i64 0, .int .i64 0, .int .i64 0, .int .i64 0]] Y fun e w' => (∃ g, e = .returned (.slice (some ⟨g, 0, none⟩) n (n + 3)) ∧ RecAmple w' X.heap.size g l ⟨77, 0, 0, 0, 0⟩) ∧ Below Y.heap.size Y w') :=
    ⟨fun Y hY => (HA1.out Y (below_tr HBX.out hY)).mono (fun e w' ⟨⟨g, h1, h2, h3, h4⟩, h5⟩ => ⟨⟨g, h1, ownsRow_mono h4 hY.size⟩, h5⟩)⟩
  have HA2' : Box (∀ Y, Below X.heap.size X Y → Calls Try.prog 15 #[.slice bo m cap1, .agg #[.int .i64 77, .string ⟨#[]⟩]] Y fun e w' => (∃ g, e = .returned (.slice (some ⟨g, 0, none⟩) m (m + 3)) ∧ VerAmple w' X.heap.size g v (77, ⟨#[]⟩)) ∧ Below Y.heap.size Y w') :=
    ⟨fun Y hY => (HA2.out Y (below_tr HBX.out hY)).mono (fun e w' ⟨⟨g, h1, h2, h3, h4⟩, h5⟩ => ⟨⟨g, h1, ownsRow_mono h4 hY.size⟩, h5⟩)⟩
  have HA3' : Box (∀ Y, Below X.heap.size X Y → Calls Try.prog 16 #[.slice co k cap2, .int .i64 77] Y fun e w' => (∃ g, e = .returned (.slice (some ⟨g, 0, none⟩) k (k + 3)) ∧ AmpleAt w' X.heap.size g act 77) ∧ Below Y.heap.size Y w') :=
    ⟨fun Y hY => (HA3.out Y (below_tr HBX.out hY)).mono (fun e w' ⟨⟨g, h1, h2, h3, h4⟩, h5⟩ => ⟨⟨g, h1, ownsRow_mono h4 hY.size⟩, h5⟩)⟩
  clear hbX hfX hoX HA1 HA2 HA3
  go_cut [14, 15, 16] (fun t14 t15 t16 wx => ∃ g1 g2 g3, t14 = .slice (some ⟨g1, 0, none⟩) n (n + 3) ∧ t15 = .slice (some ⟨g2, 0, none⟩) m (m + 3) ∧ t16 = .slice (some ⟨g3, 0, none⟩) k (k + 3) ∧ RecAmple wx X.heap.size g1 l ⟨77, 0, 0, 0, 0⟩ ∧ VerAmple wx X.heap.size g2 v (77, ⟨#[]⟩) ∧ AmpleAt wx X.heap.size g3 act 77 ∧ Below X.heap.size X wx)
  case first =>
    go_region_held3 (fun w' => w'.cell? ⟨Bf, 0, none⟩ = some (.int .i64 77) ∧ w'.cell? ⟨Bf, 1, none⟩ = some (.int .i64 0) ∧ w'.cell? ⟨Bf, 2, none⟩ = some (.int .i64 0) ∧ w'.cell? ⟨Bf, 3, none⟩ = some (.int .i64 0) ∧ w'.cell? ⟨Bf, 4, none⟩ = some (.int .i64 0) ∧
      w'.cell? ⟨Bo, 0, none⟩ = some (.int .i64 77) ∧ w'.cell? ⟨Bo, 1, none⟩ = some (.string ⟨#[]⟩)) (first | exact ⟨z0, z1, z2, z3, z4, u0, u1⟩ | assumption | (refine HS.out _ ?_; (repeat (first | exact HW.out | exact Below.refl _ _ | refine Below.drew ?_)))) (first
      | (go_at_call 14; refine (HA1'.out _ (by (repeat (first | exact HW.out | exact Below.refl _ _ | refine Below.drew ?_)))).mono ?_; rintro e w8 ⟨⟨g1, rfl, hq⟩, hb8⟩; have HW : Box (Below X.heap.size X w8) := ⟨below_tr (by (repeat (first | exact HW.out | exact Below.refl _ _ | refine Below.drew ?_))) hb8⟩; have HQ1 := box hq; (try (have HQ2 := box (HQ2.out.after hb8))); (try (have HQ3 := box (HQ3.out.after hb8))); clear hq hb8)
      | (go_at_call 15; refine (HA2'.out _ (by (repeat (first | exact HW.out | exact Below.refl _ _ | refine Below.drew ?_)))).mono ?_; rintro e w9 ⟨⟨g2, rfl, hq⟩, hb9⟩; have HW : Box (Below X.heap.size X w9) := ⟨below_tr (by (repeat (first | exact HW.out | exact Below.refl _ _ | refine Below.drew ?_))) hb9⟩; have HQ2 := box hq; (try (have HQ1 := box (HQ1.out.after hb9))); (try (have HQ3 := box (HQ3.out.after hb9))); clear hq hb9)
      | (go_at_call 16; refine (HA3'.out _ (by (repeat (first | exact HW.out | exact Below.refl _ _ | refine Below.drew ?_)))).mono ?_; rintro e wA ⟨⟨g3, rfl, hq⟩, hbA⟩; have HW : Box (Below X.heap.size X wA) := ⟨below_tr (by (repeat (first | exact HW.out | exact Below.refl _ _ | refine Below.drew ?_))) hbA⟩; have HQ3 := box hq; (try (have HQ1 := box (HQ1.out.after hbA))); (try (have HQ2 := box (HQ2.out.after hbA))); clear hq hbA)
      | fail)
    all_goals
      go_step
      go_step
      go_meet
      exact ⟨_, _, _, rfl, rfl, rfl, HQ1.out, HQ2.out, HQ3.out, HW.out⟩
  case rest =>
  obtain ⟨g1, g2, g3, rfl, rfl, rfl, hr1, hr2, hr3, hbc⟩ := hcut
  have HG1 : Box (g1 < wc.heap.size ∧ g2 < wc.heap.size ∧ X.heap.size ≤ g1 ∧ X.heap.size ≤ g2) := ⟨(World.ownsRow.lt hr1 g1 rfl).2, (World.ownsRow.lt hr2 g2 rfl).2, (World.ownsRow.lt hr1 g1 rfl).1, (World.ownsRow.lt hr2 g2 rfl).1⟩
  have HR : Box (ROwn wc X.heap.size Bf Bo g1 g2 g3 l v act) := ⟨HF.out.after hbc, HO.out.after hbc, hr1, hr2, hr3⟩
  have HBC := box (below_tr HBX.out hbc)
  obtain ⟨B, HB⟩ : ∃ x, Box (X.heap.size = x) := ⟨_, ⟨rfl⟩⟩
  have HBw : Box (w.heap.size ≤ B) := ⟨by have := HBX.out.size; have := HB.out; omega⟩
  rw [HB.out] at HR HG1 hsX
  clear hr1 hr2 hr3 hbc z0 z1 z2 z3 z4 u0 u1 HS HA1' HA2' HA3' HF HO HBX
  go_wp2_with fail
  refine (HRec.out wc B g1 HR.out.r).mono ?_
  rintro e w1 ⟨⟨mo, mc, M, p, c, rfl, hgot⟩, hb⟩
  have HR1 := box (HR.out.after hb); have HBC1 := box (below_tr HBC.out hb); have HGt := box hgot; have HZ1 := box hb.size
  obtain ⟨ml, HML⟩ : ∃ x, Box (M.length = x) := ⟨_, ⟨rfl⟩⟩
  rw [HML.out]
  clear hgot hb HR HBC
  have hszp : ∀ p : Int → PageM, (Try.prog.info? 28).map (·.size) = some (pgVals p).toArray.size := fun p => pg_size _
  have hlenp : ∀ p : Int → PageM, 40 = (pgVals p).toArray.size := fun p => by rw [List.size_toArray, pgVals_len]
  go_upto_region 7 with (first | (refine wpList_store_new rfl 28 (.tmp 18) (.tmp 54) rfl (pgVals p).toArray (by rfl) (by rfl) 28 _ (hszp p) (hlenp p) (pg_one p) ?_))
  obtain ⟨B1, HB1⟩ : ∃ x, Box (wc.heap.size = x) := ⟨_, ⟨rfl⟩⟩
  rw [HB1.out] at HG1 HGt HZ1
  refine name_world (fun Y => Below w.heap.size w Y ∧ ROwn Y B Bf Bo g1 g2 g3 l v act ∧ RecGot Y B1 mo mc M ∧ B1 ≤ Y.heap.size) ⟨HBC1.out.alloc HBC1.out.size _, HR1.out.alloc _, HGt.out.after ((Below.refl _ _).alloc (Nat.le_refl _) _), by have := HZ1.out; simp; omega⟩ ?_
  rintro Y ⟨hbY, hrY, hgY, hzY⟩
  have HBY := box hbY; have HRY := box hrY; have HGY := box hgY; have HZY := box hzY
  clear hbY hrY hgY hzY hszp hlenp HBC1 HR1 HGt HZ1
  go_wp2_with fail
  refine (HKeep.out Y B g2 g3 HRY.out.s HRY.out.a).mono ?_
  rintro e w2 ⟨⟨ko, kc, km, kk, rfl, hgot⟩, hb⟩
  have HR2 := box (HRY.out.after hb); have HBC2 := box (below_tr HBY.out hb); have HG2 := box (HGY.out.after hb); have HKt := box (hgot.mono HZY.out); have HZ2 := box (Nat.le_trans HZY.out hb.size)
  obtain ⟨kl, HKL⟩ : ∃ x, Box (km.length = x) := ⟨_, ⟨rfl⟩⟩
  rw [HKL.out]
  clear hgot hb HRY HBY HGY
  have z0 := HR2.out.f.cell (i := 0) rfl
  have z1 := HR2.out.f.cell (i := 1) rfl
  have z2 := HR2.out.f.cell (i := 2) rfl
  have z3 := HR2.out.f.cell (i := 3) rfl
  have z4 := HR2.out.f.cell (i := 4) rfl
  go_wp2_with fail
  refine (HT1.out w2 B g1 HBC2.out HR2.out.r).mono ?_
  rintro e w3 ⟨rfl, hb⟩
  have HR3 := box (HR2.out.after hb); have HBC3 := box (below_tr HBC2.out hb); have HG3 := box (HG2.out.after hb); have HK3 := box (HKt.out.after hb); have HZ3 := box (Nat.le_trans HZ2.out hb.size)
  clear hb z0 z1 z2 z3 z4 HR2 HBC2 HG2 HKt HZ2
  have u0 := HR3.out.o.cell (i := 0) rfl
  have u1 := HR3.out.o.cell (i := 1) rfl
  go_wp2_with fail
  refine (HT2.out w3 B g2 HBC3.out HR3.out.s).mono ?_
  rintro e w4 ⟨rfl, hb⟩
  have HR4 := box (HR3.out.after hb); have HBC4 := box (below_tr HBC3.out hb); have HG4 := box (HG3.out.after hb); have HK4 := box (HK3.out.after hb); have HZ4 := box (Nat.le_trans HZ3.out hb.size)
  clear hb u0 u1 HR3 HBC3 HG3 HK3 HZ3
  go_wp2_with fail
  refine (HT3.out w4 B g3 HBC4.out HR4.out.a).mono ?_
  rintro e w5 ⟨rfl, hb⟩
  have HR5 := box (HR4.out.after hb); have HBC5 := box (below_tr HBC4.out hb); have HG5 := box (HG4.out.after hb); have HK5 := box (HK4.out.after hb); have HZ5 := box (Nat.le_trans HZ4.out hb.size)
  clear hb HR4 HBC4 HG4 HK4 HZ4
  have HC1 := box (cloneRecs_any M mo mc w5 HG5.out.at_ HG5.out.nil (by have := HG5.out.len; omega))
  rw [HML.out] at HC1
  go_wp2_with fail
  refine HC1.out.mono ?_
  rintro e w6 ⟨⟨vx, rfl, hown⟩, hb⟩
  obtain ⟨xo, xc, rfl, hx⟩ := RecGot.ofOwn (by rw [← HML.out] at hown; exact hown) HG5.out.len
  rw [HML.out]
  have HR6 := box (HR5.out.after hb); have HBC6 := box (below_tr HBC5.out hb); have HG6 := box (HG5.out.after hb); have HK6 := box (HK5.out.after hb); have HX6 := box (hx.mono HZ5.out); have HZ6 := box (Nat.le_trans HZ5.out hb.size)
  clear hb hown hx HR5 HBC5 HG5 HK5 HZ5 HC1
  have HC2 := box (cloneVers_any km ko kc w6 HK6.out.at_ HK6.out.nil (by have := HK6.out.len; omega))
  rw [HKL.out] at HC2
  go_wp2_with fail
  refine HC2.out.mono ?_
  rintro e w7 ⟨⟨vy, rfl, hown⟩, hb⟩
  obtain ⟨yo, yc, rfl, hy⟩ := VerGot.ofOwn (by rw [← HKL.out] at hown; exact hown) HK6.out.len
  rw [HKL.out]
  have HR7 := box (HR6.out.after hb); have HBC7 := box (below_tr HBC6.out hb); have HG7 := box (HG6.out.after hb); have HK7 := box (HK6.out.after hb); have HX7 := box (HX6.out.after hb); have HY7 := box (hy.mono HZ6.out)
  clear hb hown hy HR6 HBC6 HG6 HK6 HX6 HZ6 HC2
  have z0 := HR7.out.f.cell (i := 0) rfl
  have z1 := HR7.out.f.cell (i := 1) rfl
  have z2 := HR7.out.f.cell (i := 2) rfl
  have z3 := HR7.out.f.cell (i := 3) rfl
  have z4 := HR7.out.f.cell (i := 4) rfl
  go_wp2_with fail
  refine (HSp1.out w7 B g1 HR7.out.r).mono ?_
  rintro e w8 ⟨rfl, hgr⟩
  have hne12 : (Value.slice (some ⟨g1, 0, none⟩) (n + 2) (n + 3)).ownBlock ≠ some g2 := by
    have h2 := HR7.out.s
    rcases h2.2 with ⟨h3, _⟩ | ⟨g', cap', cur, h3, h4, h5, _⟩
    · cases h3
    · simp only [Value.slice.injEq, Option.some.injEq, Addr.mk.injEq, and_true, true_and] at h3
      obtain ⟨rfl, -⟩ := h3
      have hb2 : Blk w7 g2 42 cur.toList := by unfold Blk; rw [Array.toArray_toList]; exact h5
      have h1 := HR7.out.r
      have := hb2.ne_own h1 (by decide)
      rw [HN.out] at this
      exact this
  have hne : g1 ≠ g2 := fun e => hne12 (by rw [e]; rfl)
  have HS8 : Box (VerAmple w8 B g2 v (77, ⟨#[]⟩)) := ⟨HR7.out.s.kept hgr (Or.inr (by simp [Value.ownBlock]; exact Ne.symm hne))⟩
  have HO8 := box (HR7.out.o.grown hgr (by
    have := HG1.out; intro e; injection e with e; omega))
  have HBC8 := box (HBC7.out.grown hgr HBC7.out.size (fun j hj => by injection hj with hj; have := HG1.out; have := HBw.out; omega))
  have HG8 := box (HG7.out.grown hgr HG1.out.1); have HK8 := box (HK7.out.grown hgr HG1.out.1); have HX8 := box (HX7.out.grown hgr HG1.out.1); have HY8 := box (HY7.out.grown hgr HG1.out.1)
  clear hgr hne12 z0 z1 z2 z3 z4 HR7 HBC7 HG7 HK7 HX7 HY7
  have u0 := HO8.out.cell (i := 0) rfl
  have u1 := HO8.out.cell (i := 1) rfl
  go_wp2_with fail
  refine (HSp2.out w8 B g2 HS8.out).mono ?_
  rintro e w9 ⟨rfl, hgr⟩
  have HBC9 := box (HBC8.out.grown hgr HBC8.out.size (fun j hj => by injection hj with hj; have := HG1.out; have := HBw.out; omega))
  have HG9 := box (HG8.out.grown hgr HG1.out.2.1); have HK9 := box (HK8.out.grown hgr HG1.out.2.1); have HX9 := box (HX8.out.grown hgr HG1.out.2.1); have HY9 := box (HY8.out.grown hgr HG1.out.2.1)
  clear hgr u0 u1 HO8 HBC8 HG8 HK8 HX8 HY8
  have HE1 := box (RecA.equal M mo xo mc xc w9 HG9.out.at_ HX9.out.at_ (by have := HG9.out.len; omega))
  rw [HML.out] at HE1
  go_wp2_with fail
  refine HE1.out.mono ?_
  rintro e wA ⟨rfl, k1, rfl⟩
  have hbE : Below w9.heap.size w9 (w9.drewN k1) := ⟨rfl, rfl, rfl, Nat.le_refl _, fun _ _ => rfl⟩
  have HBCA := box (below_tr HBC9.out hbE); have HKA := box (HK9.out.after hbE); have HYA := box (HY9.out.after hbE)
  generalize w9.drewN k1 = wE at *
  clear hbE
  have HE2 := box (VerA.equal km ko yo kc yc wE HKA.out.at_ HYA.out.at_ (by have := HKA.out.len; omega))
  rw [HKL.out] at HE2
  go_wp2_with fail
  refine HE2.out.mono ?_
  rintro e wF ⟨rfl, k2, rfl⟩
  go_wp2_with fail
  go_ret
  exact ⟨rfl, HBCA.out.trans ⟨rfl, rfl, rfl, Nat.le_refl _, fun _ _ => rfl⟩⟩
end Go.Proofs.Ytfmgncfikaefhaa
