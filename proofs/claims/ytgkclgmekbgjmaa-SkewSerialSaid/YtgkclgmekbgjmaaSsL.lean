/- SkewSerial, in plain Lean: what commits has an order. -/
import Derived.Test.YtgkclgmekbgjmaaSkP
import Derived.Test.YtgkclgmekbgjmaaSkL
import Derived.Test.YtgkclgmekbgjmaaOfT
import Derived.Test.YtgkclgmekbgjmaaDepL
namespace Go.Proofs.Ytgkclgmekbgjmaa
section
open Go.RowKit Go.Lib

/-- The table of skew, and what order.Of makes of what it tells, side by side. -/
structure SsInv (K : SkSt) (S : OfSt) : Prop where
  wr : ∀ x, x < 12 → S.rows x = K.rows (12 + x)
  ve : ∀ i, i < 20 → S.rows (12 + i) = K.rows (24 + i)
  no : ∀ x, x < 12 → K.began x = false → K.rows x = [] ∧ K.rows (12 + x) = [] ∧ K.dn x = false
  dn : ∀ t : Int, t ∈ S.done ↔ 0 ≤ t ∧ t < 12 ∧ K.dn t.toNat = true
  once : S.done.Nodup
  rd : ∀ x : Nat, x < 12 → ∀ g ∈ S.reads x, ∃ i : Nat, i < 20 ∧ g.frm = (i : Int) ∧ (i : Int) ∈ K.rows x ∧ g.to_ ≠ (x : Int) ∧ g.to_ = SkM.seen K (K.fr x) (K.rows (24 + i))
  d0 : 0 ≤ K.done
  fr : ∀ x, x < 12 → K.began x = true → 0 ≤ K.fr x ∧ K.fr x ≤ K.done
  at_ : ∀ x, x < 12 → K.dn x = true → K.began x = true ∧ K.fr x < K.at_ x ∧ K.at_ x ≤ K.done
  vm : ∀ i, i < 20 → ∀ t : Int, t ∈ K.rows (24 + i) ↔ 0 ≤ t ∧ t < 12 ∧ K.dn t.toNat = true ∧ (i : Int) ∈ K.rows (12 + t.toNat)
  vs : ∀ i, i < 20 → (K.rows (24 + i)).Pairwise fun a b => K.at_ a.toNat < K.at_ b.toNat
  nd : ∀ x, x < 12 → (K.rows (12 + x)).Nodup
  it : ∀ x, x < 12 → ∀ i ∈ K.rows (12 + x), 0 ≤ i ∧ i < 20
  ww : ∀ x y, x < 12 → y < 12 → x ≠ y → K.dn x = true → K.dn y = true → SkM.meets K x y = false
  pv : ∀ b, b < 12 → K.dn b = true → ¬ ((∃ a, a < 12 ∧ K.dn a = true ∧ a ≠ b ∧ SkM.skips K a b = true) ∧ ∃ c, c < 12 ∧ K.dn c = true ∧ c ≠ b ∧ SkM.skips K b c = true)
theorem SsInv.start : SsInv SkM.start OfM.start where
  wr := fun _ _ => rfl
  ve := fun _ _ => rfl
  no := fun _ _ _ => ⟨rfl, rfl, rfl⟩
  dn := fun t => by simp [OfM.start, SkM.start]
  once := List.nodup_nil
  rd := fun x _ g hg => by simp [OfM.start] at hg
  d0 := Int.le_refl _
  fr := fun x _ h => by simp [SkM.start] at h
  at_ := fun x _ h => by simp [SkM.start] at h
  vm := fun i _ t => by simp [SkM.start]
  vs := fun i _ => List.Pairwise.nil
  nd := fun _ _ => List.nodup_nil
  it := fun x _ i hi => by simp [SkM.start] at hi
  ww := fun x y _ _ _ h => by simp [SkM.start] at h
  pv := fun b _ h => by simp [SkM.start] at h
theorem SkM.seen_congr {K K' : SkSt} {f : Int} {l : List Int} (h : ∀ t ∈ l, K'.at_ t.toNat = K.at_ t.toNat) : SkM.seen K' f l = SkM.seen K f l := by
  unfold SkM.seen
  have : ∀ (l : List Int) (a : Int), (∀ t ∈ l, K'.at_ t.toNat = K.at_ t.toNat) → l.foldl (fun a w => if K'.at_ w.toNat ≤ f then w else a) a = l.foldl (fun a w => if K.at_ w.toNat ≤ f then w else a) a := by
    intro l
    induction l with
    | nil => intro a _; rfl
    | cons t r ih =>
      intro a h
      simp only [List.foldl_cons]
      rw [h t List.mem_cons_self]
      exact ih _ (fun u hu => h u (List.mem_cons_of_mem _ hu))
  exact this l _ h
theorem SkM.seen_append (K : SkSt) (f : Int) (l : List Int) (t : Int) : SkM.seen K f (l ++ [t]) = if K.at_ t.toNat ≤ f then t else SkM.seen K f l := by
  unfold SkM.seen
  rw [List.foldl_append]; rfl
/-- What is seen, of versions in order. -/
theorem SkM.seen_spec (K : SkSt) (f : Int) (l : List Int) : (SkM.seen K f l = -1 ∧ ∀ t ∈ l, f < K.at_ t.toNat) ∨ ∃ j, ∃ h : j < l.length, SkM.seen K f l = l[j] ∧ K.at_ l[j].toNat ≤ f ∧ ∀ i (hi : i < l.length), j < i → f < K.at_ l[i].toNat := by
  induction l using snoc_ind with
  | nil => exact Or.inl ⟨rfl, fun t ht => by cases ht⟩
  | snoc l t ih =>
    rw [SkM.seen_append]
    by_cases h : K.at_ t.toNat ≤ f
    · rw [if_pos h]
      refine Or.inr ⟨l.length, by simp, by simp, by simpa using h, fun i hi h2 => ?_⟩
      simp at hi; omega
    · rw [if_neg h]
      rcases ih with ⟨h1, h2⟩ | ⟨j, hj, h1, h2, h3⟩
      · refine Or.inl ⟨h1, fun u hu => ?_⟩
        rcases List.mem_append.1 hu with hu | hu
        · exact h2 u hu
        · simp at hu; subst hu; omega
      · refine Or.inr ⟨j, by simp; omega, by rw [List.getElem_append_left hj]; exact h1, by rw [List.getElem_append_left hj]; exact h2, fun i hi h4 => ?_⟩
        by_cases e : i < l.length
        · rw [List.getElem_append_left e]; exact h3 i e h4
        · have : i = l.length := by simp at hi; omega
          subst this
          rw [List.getElem_append_right (by omega)]
          simp; omega
section
variable {K : SkSt} {S : OfSt} {x : Nat}
theorem SkM.beside_iff (K : SkSt) (a b : Nat) (ha : K.dn a = true) (hb : K.dn b = true) : SkM.beside K a b = (decide (K.fr b < K.at_ a) && decide (K.fr a < K.at_ b)) := by
  unfold SkM.beside; rw [ha, hb]; rfl
/-- Nothing of those that are over hangs on what else is turned. -/
theorem SsInv.same {K' : SkSt} (hd : ∀ y, y < 12 → K'.dn y = K.dn y) (hat : ∀ y, y < 12 → K.dn y = true → K'.at_ y = K.at_ y ∧ K'.fr y = K.fr y ∧ K'.rows y = K.rows y ∧ K'.rows (12 + y) = K.rows (12 + y)) {a b : Nat} (ha : a < 12) (hb : b < 12) (h1 : K.dn a = true) (h2 : K.dn b = true) :
    SkM.meets K' a b = SkM.meets K a b ∧ SkM.skips K' a b = SkM.skips K a b := by
  obtain ⟨a1, a2, a3, a4⟩ := hat a ha h1
  obtain ⟨b1, b2, b3, b4⟩ := hat b hb h2
  have hbs : SkM.beside K' a b = SkM.beside K a b := by
    rw [SkM.beside_iff K a b h1 h2, SkM.beside_iff K' a b (by rw [hd a ha, h1]) (by rw [hd b hb, h2]), a1, b1, a2, b2]
  unfold SkM.meets SkM.skips
  rw [hbs, a3, a4, b4]
  exact ⟨rfl, rfl⟩
/-- Whoever is not over may turn what is theirs. -/
theorem SsInv.turn (h : SsInv K S) (hx : x < 12) {K' : SkSt} {S' : OfSt} (hxd : K.dn x = false) (hb : K'.began = upd K.began x true) (hd : K'.dn = K.dn) (ha : ∀ y, y ≠ x → K'.at_ y = K.at_ y) (hf : ∀ y, y ≠ x → K'.fr y = K.fr y) (hfx : 0 ≤ K'.fr x ∧ K'.fr x ≤ K'.done) (hdo : K'.done = K.done)
    (hr : ∀ r, r ≠ x → r ≠ 12 + x → K'.rows r = K.rows r) (hsd : S'.done = S.done) (hsr : ∀ r, r ≠ x → S'.rows r = S.rows r) (hsx : S'.rows x = K'.rows (12 + x)) (hrd : ∀ y, y ≠ x → S'.reads y = S.reads y)
    (hrx : ∀ g ∈ S'.reads x, ∃ i : Nat, i < 20 ∧ g.frm = (i : Int) ∧ (i : Int) ∈ K'.rows x ∧ g.to_ ≠ (x : Int) ∧ g.to_ = SkM.seen K (K'.fr x) (K.rows (24 + i)))
    (hnd : (K'.rows (12 + x)).Nodup) (hit : ∀ i ∈ K'.rows (12 + x), 0 ≤ i ∧ i < 20) : SsInv K' S' := by
  have hne : ∀ y, K.dn y = true → y ≠ x := fun y h e => by rw [e, hxd] at h; cases h
  have hv : ∀ i, i < 20 → K'.rows (24 + i) = K.rows (24 + i) := fun i _ => hr _ (by omega) (by omega)
  have hsee : ∀ f i, i < 20 → SkM.seen K' f (K.rows (24 + i)) = SkM.seen K f (K.rows (24 + i)) := fun f i hi => SkM.seen_congr (fun t ht => ha _ (hne _ ((h.vm i hi t).1 ht).2.2.1))
  have hsame := fun {a b : Nat} (ha1 : a < 12) (hb1 : b < 12) (h1 : K.dn a = true) (h2 : K.dn b = true) => SsInv.same (K := K) (K' := K') (fun y _ => by rw [hd]) (fun y _ hy => ⟨ha y (hne y hy), hf y (hne y hy), hr y (hne y hy) (by omega), hr _ (by omega) (by have := hne y hy; omega)⟩) ha1 hb1 h1 h2
  refine ⟨fun y hy => ?_, fun i hi => ?_, fun y hy hbn => ?_, fun t => ?_, ?_, fun y hy g hg => ?_, ?_, fun y hy hbn => ?_, fun y hy hdn => ?_, fun i hi t => ?_, fun i hi => ?_, fun y hy => ?_, fun y hy => ?_, fun y z hy hz hyz h1 h2 => ?_, fun b hb1 h1 => ?_⟩
  · by_cases e : y = x
    · rw [e]; exact hsx
    · rw [hsr y e, h.wr y hy, hr _ (by omega) (by omega)]
  · rw [hsr _ (by omega), h.ve i hi, hv i hi]
  · rw [hb] at hbn
    by_cases e : y = x
    · rw [e, upd_same] at hbn; cases hbn
    · rw [upd_other _ _ e] at hbn
      obtain ⟨h1, h2, h3⟩ := h.no y hy hbn
      exact ⟨by rw [hr y e (by omega)]; exact h1, by rw [hr _ (by omega) (by omega)]; exact h2, by rw [hd]; exact h3⟩
  · rw [hsd, hd]; exact h.dn t
  · rw [hsd]; exact h.once
  · by_cases e : y = x
    · subst e
      obtain ⟨i, h1, h2, h3, h4, h5⟩ := hrx g hg
      exact ⟨i, h1, h2, h3, h4, by rw [hv i h1, hsee _ i h1]; exact h5⟩
    · rw [hrd y e] at hg
      obtain ⟨i, h1, h2, h3, h4, h5⟩ := h.rd y hy g hg
      exact ⟨i, h1, h2, by rw [hr y e (by omega)]; exact h3, h4, by rw [hv i h1, hsee _ i h1, hf y e]; exact h5⟩
  · rw [hdo]; exact h.d0
  · by_cases e : y = x
    · rw [e]; exact hfx
    · rw [hb, upd_other _ _ e] at hbn
      rw [hf y e, hdo]; exact h.fr y hy hbn
  · rw [hd] at hdn
    have e := hne y hdn
    rw [hb, upd_other _ _ e, ha y e, hf y e, hdo]
    exact h.at_ y hy hdn
  · rw [hv i hi, h.vm i hi t, hd]
    constructor
    · rintro ⟨h1, h2, h3, h4⟩
      exact ⟨h1, h2, h3, by rw [hr _ (by have := hne _ h3; omega) (by have := hne _ h3; omega)]; exact h4⟩
    · rintro ⟨h1, h2, h3, h4⟩
      exact ⟨h1, h2, h3, by rw [hr _ (by have := hne _ h3; omega) (by have := hne _ h3; omega)] at h4; exact h4⟩
  · rw [hv i hi]
    refine (h.vs i hi).imp_of_mem ?_
    intro a b ha1 hb1 hab
    rw [ha _ (hne _ ((h.vm i hi a).1 ha1).2.2.1), ha _ (hne _ ((h.vm i hi b).1 hb1).2.2.1)]
    exact hab
  · by_cases e : y = x
    · rw [e]; exact hnd
    · rw [hr _ (by omega) (by omega)]; exact h.nd y hy
  · by_cases e : y = x
    · rw [e]; exact hit
    · rw [hr _ (by omega) (by omega)]; exact h.it y hy
  · rw [hd] at h1 h2
    rw [(hsame hy hz h1 h2).1]
    exact h.ww y z hy hz hyz h1 h2
  · rw [hd] at h1
    rintro ⟨⟨a, a1, a2, a3, a4⟩, ⟨c, c1, c2, c3, c4⟩⟩
    rw [hd] at a2 c2
    rw [(hsame a1 hb1 a2 h1).2] at a4
    rw [(hsame hb1 c1 h1 c2).2] at c4
    exact h.pv b hb1 h1 ⟨⟨a, a1, a2, a3, a4⟩, ⟨c, c1, c2, c3, c4⟩⟩
theorem SkM.begin_as (K : SkSt) (x : Nat) (h : SsInv K S) (hx : x < 12) : (SkM.begin K x).began = upd K.began x true ∧ (SkM.begin K x).dn = K.dn ∧ (∀ y, y ≠ x → (SkM.begin K x).at_ y = K.at_ y) ∧ (∀ y, y ≠ x → (SkM.begin K x).fr y = K.fr y) ∧ (SkM.begin K x).done = K.done ∧ (SkM.begin K x).rows = K.rows ∧ (0 ≤ (SkM.begin K x).fr x ∧ (SkM.begin K x).fr x ≤ K.done) := by
  unfold SkM.begin
  by_cases hb : K.began x = true
  · rw [if_pos hb]
    refine ⟨?_, rfl, fun _ _ => rfl, fun _ _ => rfl, rfl, rfl, h.fr x hx hb⟩
    funext y
    unfold upd; split
    · rename_i e; rw [e, hb]
    · rfl
  · rw [if_neg hb]
    obtain ⟨h1, h2, h3⟩ := h.no x hx (by simpa using hb)
    refine ⟨rfl, ?_, fun y e => upd_other _ _ e, fun y e => upd_other _ _ e, rfl, ?_, ?_⟩
    · funext y
      dsimp only
      unfold upd; split
      · rename_i e; rw [e, h3]
      · rfl
    · funext r
      dsimp only
      unfold upd; split
      · rename_i e; rw [e, h2]
      · split
        · rename_i e; rw [e, h1]
        · rfl
    · dsimp only; rw [upd_same]; exact ⟨h.d0, Int.le_refl _⟩
theorem OfM.begin_as (S : OfSt) (t : Int) : (OfM.begin S t).done = S.done ∧ (OfM.begin S t).rows = S.rows ∧ (OfM.begin S t).reads = S.reads := by
  unfold OfM.begin; split <;> exact ⟨rfl, rfl, rfl⟩
theorem SsInv.rx (h : SsInv K S) (hx : x < 12) (hno : K.began x = false → S.reads x = []) : ∀ g ∈ S.reads x, ∃ i : Nat, i < 20 ∧ g.frm = (i : Int) ∧ (i : Int) ∈ K.rows x ∧ g.to_ ≠ (x : Int) ∧ g.to_ = SkM.seen K ((SkM.begin K x).fr x) (K.rows (24 + i)) := by
  intro g hg
  have hb : K.began x = true := by
    cases hb : K.began x with
    | true => rfl
    | false => rw [hno hb] at hg; cases hg
  have : (SkM.begin K x).fr x = K.fr x := by unfold SkM.begin; rw [if_pos hb]
  rw [this]
  exact h.rd x hx g hg
theorem SsInv.idle (h : SsInv K S) (hx : x < 12) : K.began x = false → S.reads x = [] := fun hb => by
  cases hr : S.reads x with
  | nil => rfl
  | cons g r =>
    obtain ⟨i, _, _, h3, _⟩ := h.rd x hx g (by rw [hr]; exact List.mem_cons_self)
    rw [(h.no x hx hb).1] at h3
    cases h3
theorem SsInv.readStep (h : SsInv K S) (hx : x < 12) (hxd : K.dn x = false) {it : Nat} (hit : it < 20) (v : Int) (hv : v = SkM.readV (SkM.begin K x) x (x : Int) (it : Int)) :
    SsInv (SkM.readS (SkM.begin K x) x (it : Int)) (if v ≠ (x : Int) then { OfM.begin S (x : Int) with reads := upd (OfM.begin S (x : Int)).reads x ((OfM.begin S (x : Int)).reads x ++ [⟨(it : Int), v⟩]) } else OfM.begin S (x : Int)) := by
  obtain ⟨b1, b2, b3, b4, b5, b6, b7⟩ := SkM.begin_as K x h hx
  obtain ⟨o1, o2, o3⟩ := OfM.begin_as S (x : Int)
  have hrx := h.rx hx (h.idle hx)
  have hse : ∀ f i, i < 20 → SkM.seen (SkM.begin K x) f (K.rows (24 + i)) = SkM.seen K f (K.rows (24 + i)) := fun f i hi => SkM.seen_congr (fun t ht => b3 _ (fun e => by
    have := ((h.vm i hi t).1 ht).2.2.1
    rw [e, hxd] at this; cases this))
  unfold SkM.readV at hv
  unfold SkM.readS
  by_cases hw : (it : Int) ∈ (SkM.begin K x).rows (12 + x)
  · rw [if_pos hw] at hv ⊢
    rw [if_neg (by rw [hv]; simp)]
    exact h.turn hx hxd b1 b2 b3 b4 (by rw [b5]; exact b7) b5 (fun r _ _ => by rw [b6]) o1 (fun r _ => by rw [o2]) (by rw [o2, b6]; exact h.wr x hx) (fun y _ => by rw [o3]) (by rw [o3, b6]; exact hrx) (by rw [b6]; exact h.nd x hx) (by rw [b6]; exact h.it x hx)
  · rw [if_neg hw] at hv ⊢
    have hvs : v = SkM.seen K ((SkM.begin K x).fr x) (K.rows (24 + it)) := by
      rw [hv, Int.toNat_natCast, b6, hse _ it hit]
    have hvx : v ≠ (x : Int) := by
      rw [hvs]
      rcases SkM.seen_spec K ((SkM.begin K x).fr x) (K.rows (24 + it)) with ⟨h1, _⟩ | ⟨j, hj, h1, _⟩
      · rw [h1]; omega
      · rw [h1]
        intro e
        have := ((h.vm it hit _).1 (List.getElem_mem hj)).2.2.1
        rw [e, Int.toNat_natCast, hxd] at this; cases this
    rw [if_pos hvx]
    have hnew : ∀ (K' : SkSt), ((it : Int) ∈ K'.rows x) → (∀ i ∈ K.rows x, i ∈ K'.rows x) → ∀ g ∈ (upd (OfM.begin S (x : Int)).reads x ((OfM.begin S (x : Int)).reads x ++ [⟨(it : Int), v⟩])) x, ∃ i : Nat, i < 20 ∧ g.frm = (i : Int) ∧ (i : Int) ∈ K'.rows x ∧ g.to_ ≠ (x : Int) ∧ g.to_ = SkM.seen K ((SkM.begin K x).fr x) (K.rows (24 + i)) := by
      intro K' hin hsub g hg
      rw [upd_same, o3] at hg
      rcases List.mem_append.1 hg with hg | hg
      · obtain ⟨i, h1, h2, h3, h4, h5⟩ := hrx g hg
        exact ⟨i, h1, h2, hsub _ h3, h4, h5⟩
      · simp at hg; subst hg
        exact ⟨it, hit, rfl, hin, hvx, hvs⟩
    by_cases hr : (it : Int) ∈ (SkM.begin K x).rows x
    · rw [if_pos hr]
      exact h.turn hx hxd b1 b2 b3 b4 (by rw [b5]; exact b7) b5 (fun r _ _ => by rw [b6]) o1 (fun r _ => by dsimp only; rw [o2]) (by dsimp only; rw [o2, b6]; exact h.wr x hx) (fun y e => by dsimp only; rw [upd_other _ _ e, o3]) (hnew _ hr (fun i hi => by rw [b6]; exact hi)) (by rw [b6]; exact h.nd x hx) (by rw [b6]; exact h.it x hx)
    · rw [if_neg hr]
      exact h.turn hx hxd b1 b2 b3 b4 (by dsimp only; rw [b5]; exact b7) b5 (fun r e _ => by dsimp only; rw [upd_other _ _ e, b6]) o1 (fun r _ => by dsimp only; rw [o2]) (by dsimp only; rw [o2, upd_other _ _ (by omega), b6]; exact h.wr x hx) (fun y e => by dsimp only; rw [upd_other _ _ e, o3]) (hnew _ (by dsimp only; rw [upd_same]; simp) (fun i hi => by dsimp only; rw [upd_same, b6]; exact List.mem_append_left _ hi)) (by dsimp only; rw [upd_other _ _ (by omega), b6]; exact h.nd x hx) (by dsimp only; rw [upd_other _ _ (by omega), b6]; exact h.it x hx)
theorem SsInv.writeStep (h : SsInv K S) (hx : x < 12) (hxd : K.dn x = false) {it : Nat} (hit : it < 20) :
    SsInv (SkM.writeS (SkM.begin K x) x (it : Int)) (if (it : Int) ∉ (OfM.begin S (x : Int)).rows x then { OfM.begin S (x : Int) with rows := upd (OfM.begin S (x : Int)).rows x ((OfM.begin S (x : Int)).rows x ++ [(it : Int)]) } else OfM.begin S (x : Int)) := by
  obtain ⟨b1, b2, b3, b4, b5, b6, b7⟩ := SkM.begin_as K x h hx
  obtain ⟨o1, o2, o3⟩ := OfM.begin_as S (x : Int)
  have hrx := h.rx hx (h.idle hx)
  unfold SkM.writeS
  rw [o2, h.wr x hx, b6]
  by_cases hw : (it : Int) ∈ K.rows (12 + x)
  · rw [if_pos hw, if_neg (by simpa using hw)]
    exact h.turn hx hxd b1 b2 b3 b4 (by rw [b5]; exact b7) b5 (fun r _ _ => by rw [b6]) o1 (fun r _ => by rw [o2]) (by rw [o2, b6]; exact h.wr x hx) (fun y _ => by rw [o3]) (by rw [o3, b6]; exact hrx) (by rw [b6]; exact h.nd x hx) (by rw [b6]; exact h.it x hx)
  · rw [if_neg hw, if_pos hw]
    refine h.turn hx hxd b1 b2 b3 b4 (by dsimp only; rw [b5]; exact b7) b5 (fun r _ e => by dsimp only; rw [upd_other _ _ e]) o1 (fun r e => by dsimp only; rw [upd_other _ _ e]) (by dsimp only; rw [upd_same, upd_same]) (fun y _ => by dsimp only; rw [o3]) (by dsimp only; rw [o3, upd_other _ _ (by omega)]; exact hrx) ?_ ?_
    · dsimp only; rw [upd_same, List.nodup_append]
      exact ⟨h.nd x hx, by simp, fun a ha b hb => by simp at hb; subst hb; intro e; exact hw (e ▸ ha)⟩
    · dsimp only; rw [upd_same]
      intro i hi
      rcases List.mem_append.1 hi with hi | hi
      · exact h.it x hx i hi
      · simp at hi; omega
theorem SsInv.idleStep (h : SsInv K S) (hx : x < 12) (hxd : K.dn x = false) : SsInv (SkM.begin K x) (OfM.begin S (x : Int)) := by
  obtain ⟨b1, b2, b3, b4, b5, b6, b7⟩ := SkM.begin_as K x h hx
  obtain ⟨o1, o2, o3⟩ := OfM.begin_as S (x : Int)
  exact h.turn hx hxd b1 b2 b3 b4 (by rw [b5]; exact b7) b5 (fun r _ _ => by rw [b6]) o1 (fun r _ => by rw [o2]) (by rw [o2, b6]; exact h.wr x hx) (fun y _ => by rw [o3]) (by rw [o3, b6]; exact h.rx hx (h.idle hx)) (by rw [b6]; exact h.nd x hx) (by rw [b6]; exact h.it x hx)
theorem SkM.put_at (t : Int) : ∀ (its : List Int), its.Nodup → (∀ i ∈ its, 0 ≤ i) → ∀ (rows : Nat → List Int) (i : Nat), SkM.put t rows its (24 + i) = if (i : Int) ∈ its then rows (24 + i) ++ [t] else rows (24 + i)
  | [], _, _, rows, i => by simp [SkM.put]
  | a :: r, hn, h0, rows, i => by
    have ih := SkM.put_at t r (List.nodup_cons.1 hn).2 (fun j hj => h0 j (List.mem_cons_of_mem _ hj)) (upd rows (24 + a.toNat) (rows (24 + a.toNat) ++ [t])) i
    have ha0 := h0 a List.mem_cons_self
    have hna := (List.nodup_cons.1 hn).1
    simp only [SkM.put, List.foldl_cons] at ih ⊢
    rw [ih]
    by_cases e : (i : Int) = a
    · have e2 : 24 + i = 24 + a.toNat := by omega
      rw [if_neg (by rw [e]; exact hna), if_pos (by rw [e]; exact List.mem_cons_self), e2, upd_same]
    · have e2 : 24 + i ≠ 24 + a.toNat := by omega
      rw [upd_other _ _ e2]
      by_cases h1 : (i : Int) ∈ r
      · rw [if_pos h1, if_pos (List.mem_cons_of_mem _ h1)]
      · rw [if_neg h1, if_neg (fun h2 => (List.mem_cons.1 h2).elim e h1)]
theorem OfM.put_at (t : Int) : ∀ (its : List Int), its.Nodup → (∀ i ∈ its, 0 ≤ i) → ∀ (rows : Nat → List Int) (i : Nat), OfM.put t rows its (12 + i) = if (i : Int) ∈ its then rows (12 + i) ++ [t] else rows (12 + i)
  | [], _, _, rows, i => by simp [OfM.put]
  | a :: r, hn, h0, rows, i => by
    have ih := OfM.put_at t r (List.nodup_cons.1 hn).2 (fun j hj => h0 j (List.mem_cons_of_mem _ hj)) (upd rows (12 + a.toNat) (rows (12 + a.toNat) ++ [t])) i
    have ha0 := h0 a List.mem_cons_self
    have hna := (List.nodup_cons.1 hn).1
    simp only [OfM.put, List.foldl_cons] at ih ⊢
    rw [ih]
    by_cases e : (i : Int) = a
    · have e2 : 12 + i = 12 + a.toNat := by omega
      rw [if_neg (by rw [e]; exact hna), if_pos (by rw [e]; exact List.mem_cons_self), e2, upd_same]
    · have e2 : 12 + i ≠ 12 + a.toNat := by omega
      rw [upd_other _ _ e2]
      by_cases h1 : (i : Int) ∈ r
      · rw [if_pos h1, if_pos (List.mem_cons_of_mem _ h1)]
      · rw [if_neg h1, if_neg (fun h2 => (List.mem_cons.1 h2).elim e h1)]
theorem SsInv.commitStep (h : SsInv K S) (hx : x < 12) (hxd : K.dn x = false) (hc : SkM.clash (SkM.begin K x) x = false) :
    SsInv (SkM.commit (SkM.begin K x) x (x : Int)) { OfM.begin S (x : Int) with rows := OfM.put (x : Int) (OfM.begin S (x : Int)).rows ((OfM.begin S (x : Int)).rows x), done := (OfM.begin S (x : Int)).done ++ [(x : Int)] } := by
  have h := h.idleStep hx hxd
  obtain ⟨_, b2, _⟩ := SkM.begin_as K x ‹SsInv K S› hx
  have hxd : (SkM.begin K x).dn x = false := by rw [b2]; exact hxd
  have hbx : (SkM.begin K x).began x = true := by
    unfold SkM.begin
    split
    · assumption
    · exact upd_same _ _ _
  generalize SkM.begin K x = K at *
  generalize OfM.begin S (x : Int) = S at *
  clear b2
  have hne : ∀ y, K.dn y = true → y ≠ x := fun y h e => by rw [e, hxd] at h; cases h
  obtain ⟨f0, f1⟩ := h.fr x hx hbx
  have hw0 : ∀ i ∈ K.rows (12 + x), 0 ≤ i := fun i hi => (h.it x hx i hi).1
  have hdn : ∀ y, (SkM.commit K x (x : Int)).dn y = true ↔ y = x ∨ K.dn y = true := fun y => by
    show upd K.dn x true y = true ↔ _
    by_cases e : y = x
    · rw [e, upd_same]; simp
    · rw [upd_other _ _ e]; simp [e]
  have hat : ∀ y, y ≠ x → (SkM.commit K x (x : Int)).at_ y = K.at_ y := fun y e => upd_other _ _ e
  have hax : (SkM.commit K x (x : Int)).at_ x = K.done + 1 := upd_same _ _ _
  have hlow : ∀ r, r < 24 → (SkM.commit K x (x : Int)).rows r = K.rows r := fun r hr => SkM.put_low _ _ _ _ hr
  have hver : ∀ i, i < 20 → (SkM.commit K x (x : Int)).rows (24 + i) = if (i : Int) ∈ K.rows (12 + x) then K.rows (24 + i) ++ [(x : Int)] else K.rows (24 + i) := fun i _ => SkM.put_at _ _ (h.nd x hx) hw0 _ _
  have hsee : ∀ f i, i < 20 → f ≤ K.done → SkM.seen (SkM.commit K x (x : Int)) f ((SkM.commit K x (x : Int)).rows (24 + i)) = SkM.seen K f (K.rows (24 + i)) := fun f i hi hf => by
    have h1 : SkM.seen (SkM.commit K x (x : Int)) f (K.rows (24 + i)) = SkM.seen K f (K.rows (24 + i)) := SkM.seen_congr (fun t ht => hat _ (hne _ ((h.vm i hi t).1 ht).2.2.1))
    rw [hver i hi]
    split
    · rw [SkM.seen_append, Int.toNat_natCast, hax, if_neg (by omega), h1]
    · exact h1
  -- of two that are over: as before, or as the test saw them
  have hbs : ∀ a b, a < 12 → b < 12 → (a = x ∨ K.dn a = true) → (b = x ∨ K.dn b = true) → a ≠ b → SkM.beside (SkM.commit K x (x : Int)) a b = SkM.beside K a b := by
    intro a b ha hb h1 h2 hab
    rw [SkM.beside_iff _ a b ((hdn a).2 h1) ((hdn b).2 h2)]
    have hfr : (SkM.commit K x (x : Int)).fr = K.fr := rfl
    rw [hfr]
    unfold SkM.beside
    by_cases ea : a = x
    · subst ea
      have eb : K.dn b = true := h2.resolve_left (fun e => hab e.symm)
      have hb2 := h.at_ b hb eb
      have hb3 := h.fr b hb hb2.1
      rw [hax, hat b (hne b eb), hxd, eb, decide_eq_true (show K.fr b < K.done + 1 by omega)]; rfl
    · have ea2 : K.dn a = true := h1.resolve_left ea
      have ha2 := h.at_ a ha ea2
      have ha3 := h.fr a ha ha2.1
      rw [hat a ea, ea2]
      by_cases eb : b = x
      · subst eb
        rw [hax, hxd, decide_eq_true (show K.fr a < K.done + 1 by omega)]; rfl
      · have eb2 : K.dn b = true := h2.resolve_left eb
        rw [hat b eb, eb2]; rfl
  have hme : ∀ a b, a < 12 → b < 12 → (a = x ∨ K.dn a = true) → (b = x ∨ K.dn b = true) → a ≠ b → SkM.meets (SkM.commit K x (x : Int)) a b = SkM.meets K a b ∧ SkM.skips (SkM.commit K x (x : Int)) a b = SkM.skips K a b := by
    intro a b ha hb h1 h2 hab
    unfold SkM.meets SkM.skips
    rw [hbs a b ha hb h1 h2 hab, hlow (12 + a) (by omega), hlow (12 + b) (by omega), hlow a (by omega)]
    exact ⟨rfl, rfl⟩
  unfold SkM.clash at hc
  rw [Bool.or_eq_false_iff] at hc
  have hww : ∀ y, y < 12 → y ≠ x → K.dn y = true → SkM.meets K x y = false := fun y hy e hd => by
    have := hc.1
    unfold SkM.ww at this
    rw [List.any_eq_false] at this
    have := this y (List.mem_range.2 hy)
    unfold SkM.wwAt at this
    rw [decide_eq_true e, hd] at this
    simpa using this
  have hmsym : ∀ a b, SkM.meets K a b = SkM.meets K b a := by
    intro a b
    unfold SkM.meets SkM.beside
    rw [Bool.and_comm (!K.dn a || _)]
    congr 1
    rw [Bool.eq_iff_iff, List.any_eq_true, List.any_eq_true]
    constructor
    · rintro ⟨i, h1, h2⟩; exact ⟨i, of_decide_eq_true h2, decide_eq_true h1⟩
    · rintro ⟨i, h1, h2⟩; exact ⟨i, of_decide_eq_true h2, decide_eq_true h1⟩
  have hA : ∀ y, y < 12 → ((y = x ∨ K.dn y = true) ↔ y ∈ SkM.olds K x 12 ++ [x]) := fun y hy => by
    unfold SkM.olds
    rw [List.mem_append, List.mem_filter, List.mem_range, List.mem_singleton]
    constructor
    · rintro (h1 | h1)
      · exact Or.inr h1
      · exact Or.inl ⟨hy, by rw [decide_eq_true (hne y h1), h1]; rfl⟩
    · rintro (⟨_, h1⟩ | h1)
      · right; simp at h1; exact h1.2
      · exact Or.inl h1
  refine ⟨fun y hy => ?_, fun i hi => ?_, fun y hy hbn => ?_, fun t => ?_, ?_, fun y hy g hg => ?_, ?_, fun y hy hbn => ?_, fun y hy hd => ?_, fun i hi t => ?_, fun i hi => ?_, fun y hy => ?_, fun y hy => ?_, fun y z hy hz hyz h1 h2 => ?_, fun b hb1 h1 => ?_⟩
  · rw [hlow _ (by omega)]
    show OfM.put _ _ _ y = _
    rw [OfM.put_low _ _ _ _ hy]; exact h.wr y hy
  · rw [hver i hi]
    show OfM.put _ _ _ (12 + i) = _
    rw [h.wr x hx, OfM.put_at _ _ (h.nd x hx) hw0, h.ve i hi]
  · have hbn : K.began y = false := hbn
    obtain ⟨h1, h2, h3⟩ := h.no y hy hbn
    refine ⟨by rw [hlow _ (by omega)]; exact h1, by rw [hlow _ (by omega)]; exact h2, ?_⟩
    show upd K.dn x true y = false
    rw [upd_other _ _ (fun e => by rw [e, hbx] at hbn; cases hbn)]; exact h3
  · show t ∈ S.done ++ [(x : Int)] ↔ _
    rw [List.mem_append, List.mem_singleton, h.dn t, hdn]
    constructor
    · rintro (⟨h1, h2, h3⟩ | h1)
      · exact ⟨h1, h2, Or.inr h3⟩
      · subst h1; exact ⟨by omega, by omega, Or.inl (Int.toNat_natCast x)⟩
    · rintro ⟨h1, h2, h3 | h3⟩
      · right; omega
      · exact Or.inl ⟨h1, h2, h3⟩
  · show (S.done ++ [(x : Int)]).Nodup
    rw [List.nodup_append]
    refine ⟨h.once, by simp, fun a ha b hb => ?_⟩
    simp at hb; subst hb
    intro e
    rw [e] at ha
    have := ((h.dn _).1 ha).2.2
    rw [Int.toNat_natCast, hxd] at this; cases this
  · obtain ⟨i, h1, h2, h3, h4, h5⟩ := h.rd y hy g hg
    refine ⟨i, h1, h2, by rw [hlow _ (by omega)]; exact h3, h4, ?_⟩
    have hby : K.began y = true := by
      cases hb : K.began y with
      | true => rfl
      | false => rw [(h.no y hy hb).1] at h3; cases h3
    show _ = SkM.seen _ (K.fr y) _
    rw [hsee _ i h1 (h.fr y hy hby).2]; exact h5
  · show 0 ≤ K.done + 1
    have := h.d0; omega
  · show 0 ≤ K.fr y ∧ K.fr y ≤ K.done + 1
    have := h.fr y hy hbn; omega
  · show K.began y = true ∧ K.fr y < _ ∧ _ ≤ K.done + 1
    rcases (hdn y).1 hd with e | hd
    · subst e; rw [hax]; exact ⟨hbx, by omega, by omega⟩
    · have := h.at_ y hy hd
      rw [hat y (hne y hd)]
      exact ⟨this.1, this.2.1, by omega⟩
  · rw [hver i hi, hdn]
    by_cases hin : (i : Int) ∈ K.rows (12 + x)
    · rw [if_pos hin, List.mem_append, List.mem_singleton, h.vm i hi t]
      constructor
      · rintro (⟨h1, h2, h3, h4⟩ | h1)
        · exact ⟨h1, h2, Or.inr h3, by rw [hlow _ (by omega)]; exact h4⟩
        · subst h1
          exact ⟨by omega, by omega, Or.inl (Int.toNat_natCast x), by rw [Int.toNat_natCast, hlow _ (by omega)]; exact hin⟩
      · rintro ⟨h1, h2, h3, h4⟩
        rw [hlow _ (by omega)] at h4
        rcases h3 with h3 | h3
        · right; omega
        · exact Or.inl ⟨h1, h2, h3, h4⟩
    · rw [if_neg hin, h.vm i hi t]
      constructor
      · rintro ⟨h1, h2, h3, h4⟩
        exact ⟨h1, h2, Or.inr h3, by rw [hlow _ (by omega)]; exact h4⟩
      · rintro ⟨h1, h2, h3, h4⟩
        rw [hlow _ (by omega)] at h4
        rcases h3 with h3 | h3
        · rw [h3] at h4; exact absurd h4 hin
        · exact ⟨h1, h2, h3, h4⟩
  · have hold : (K.rows (24 + i)).Pairwise fun a b => (SkM.commit K x (x : Int)).at_ a.toNat < (SkM.commit K x (x : Int)).at_ b.toNat := by
      refine (h.vs i hi).imp_of_mem ?_
      intro a b ha hb hab
      rw [hat _ (hne _ ((h.vm i hi a).1 ha).2.2.1), hat _ (hne _ ((h.vm i hi b).1 hb).2.2.1)]
      exact hab
    rw [hver i hi]
    split
    · rw [List.pairwise_append]
      refine ⟨hold, by simp, fun a ha b hb => ?_⟩
      simp at hb; subst hb
      have h3 := (h.vm i hi a).1 ha
      rw [Int.toNat_natCast, hax, hat _ (hne _ h3.2.2.1)]
      have := h.at_ a.toNat (by omega) h3.2.2.1
      omega
    · exact hold
  · rw [hlow _ (by omega)]; exact h.nd y hy
  · rw [hlow _ (by omega)]; exact h.it y hy
  · have c1 := (hdn y).1 h1
    have c2 := (hdn z).1 h2
    rw [(hme y z hy hz c1 c2 hyz).1]
    rcases c1 with e | c1
    · subst e
      exact hww z hz (Ne.symm hyz) (c2.resolve_left (Ne.symm hyz))
    · rcases c2 with e | c2
      · subst e
        rw [hmsym]; exact hww y hy hyz c1
      · exact h.ww y z hy hz hyz c1 c2
  · rintro ⟨⟨a, a1, a2, a3, a4⟩, ⟨c, c1, c2, c3, c4⟩⟩
    have d1 := (hdn b).1 h1
    have da := (hdn a).1 a2
    have dc := (hdn c).1 c2
    rw [(hme a b a1 hb1 da d1 a3).2] at a4
    rw [(hme b c hb1 c1 d1 dc (Ne.symm c3)).2] at c4
    have := hc.2
    unfold SkM.pivot at this
    rw [List.any_eq_false] at this
    refine this b ((hA b hb1).1 d1) ?_
    unfold SkM.inn SkM.out
    rw [Bool.and_eq_true, List.any_eq_true, List.any_eq_true]
    exact ⟨⟨a, (hA a a1).1 da, by rw [decide_eq_true a3, a4]; rfl⟩, ⟨c, (hA c c1).1 dc, by rw [decide_eq_true c3, c4]; rfl⟩⟩
end
end
section
open Go.RowKit Go.Lib

theorem SkM.dids_append (a b : List OpM) : ∀ st, SkM.dids (a ++ b) st = SkM.dids a st ++ SkM.dids b (a.foldl (fun st o => SkM.step (SkM.cl st o) st o) st) := by
  induction a with
  | nil => intro st; rfl
  | cons o a ih => intro st; simp only [List.cons_append, SkM.dids, List.foldl_cons, ih]
theorem SkM.play_at (l : List OpM) (k : Nat) (h : k < l.length) (h' : k < (SkM.play l).length) : (SkM.play l)[k] = SkM.did (SkM.cl (SkM.run (l.take k)) l[k]) (SkM.run (l.take k)) l[k] := by
  have e : l = l.take k ++ (l[k] :: l.drop (k + 1)) := by rw [← List.drop_eq_getElem_cons h, List.take_append_drop]
  have e2 : SkM.play l = SkM.play (l.take k) ++ (SkM.did (SkM.cl (SkM.run (l.take k)) l[k]) (SkM.run (l.take k)) l[k] :: SkM.dids (l.drop (k + 1)) (SkM.step (SkM.cl (SkM.run (l.take k)) l[k]) (SkM.run (l.take k)) l[k])) := by
    have := SkM.dids_append (l.take k) (l[k] :: l.drop (k + 1)) SkM.start
    rw [← e] at this
    exact this
  have hl : (SkM.play (l.take k)).length = k := by rw [SkM.play_len, List.length_take]; omega
  have h1 : (SkM.play l)[k]? = some (SkM.did (SkM.cl (SkM.run (l.take k)) l[k]) (SkM.run (l.take k)) l[k]) := by
    rw [e2, List.getElem?_append_right (by omega), hl, Nat.sub_self]; rfl
  rw [List.getElem?_eq_getElem h'] at h1
  exact Option.some.inj h1
/-- Both run side by side. -/
theorem Ss.run (l : List OpM) (hc : RunM.check l = 0) : ∀ k, k ≤ l.length → SsInv (SkM.run (l.take k)) (OfM.run l (SkM.play l) k)
  | 0, _ => SsInv.start
  | k + 1, hk => by
    have h := Ss.run l hc k (by omega)
    have hk2 : k < l.length := by omega
    have hlen := SkM.play_len l
    obtain ⟨_, hgo, hbad⟩ := RunM.check_ok hc
    rw [List.take_succ_eq_append_getElem hk2, SkM.run_snoc, OfM.run_succ hk2 (by omega), SkM.play_at l k hk2 (by omega)]
    obtain ⟨b1, b2, b3, b4, b5, b6, _⟩ := RunM.bad_zero (hbad _ (List.getElem_mem hk2))
    have hxd : (SkM.run (l.take k)).dn l[k].tx.toNat = false := by
      cases hd : (SkM.run (l.take k)).dn l[k].tx.toNat with
      | false => rfl
      | true =>
        have h1 := (h.dn l[k].tx).2 ⟨b1, b2, hd⟩
        obtain ⟨i, hi, hik, ht, h3⟩ := OfM.done_at hlen k (by omega) _ h1
        have := OfM.go_one hgo hk2 hik (by rw [ht])
        omega
    generalize SkM.run (l.take k) = K at *
    generalize OfM.run l (SkM.play l) k = S at *
    generalize l[k] = o at *
    obtain ⟨x, hx⟩ : ∃ x : Nat, o.tx = (x : Int) := ⟨o.tx.toNat, by omega⟩
    obtain ⟨it, hit⟩ : ∃ it : Nat, o.item = (it : Int) := ⟨o.item.toNat, by omega⟩
    have hx12 : x < 12 := by omega
    have hit20 : it < 20 := by omega
    unfold SkM.step SkM.did OfM.step
    rw [hx, Int.toNat_natCast] at hxd
    rw [hx, hit, Int.toNat_natCast]
    dsimp only
    by_cases k1 : o.kind = 1
    · simp only [k1, if_true, true_and]
      have := h.readStep hx12 hxd hit20 _ rfl
      by_cases hv : SkM.readV (SkM.begin K x) x (x : Int) (it : Int) ≠ (x : Int)
      · rw [if_pos hv] at this ⊢; exact this
      · rw [if_neg hv] at this ⊢
        rw [if_neg (by omega), if_neg (by omega)]
        exact this
    · by_cases k2 : o.kind = 2
      · rw [if_neg k1, if_pos k2, if_neg (fun h => k1 h.1)]
        have := h.writeStep hx12 hxd hit20
        by_cases hv : (it : Int) ∉ (OfM.begin S (x : Int)).rows x
        · rw [if_pos hv] at this; rw [if_pos ⟨k2, hv⟩]; exact this
        · rw [if_neg hv] at this
          rw [if_neg (fun h => hv h.2), if_neg (by omega)]
          exact this
      · by_cases k3 : o.kind = 3
        · clear k1 k2
          cases hcl : SkM.cl K o with
          | true =>
            simp only [k3, Int.reduceEq, if_false, if_true, false_and, true_and, Bool.not_true, Bool.false_eq_true]
            exact h.idleStep hx12 hxd
          | false =>
            simp only [k3, Int.reduceEq, if_false, if_true, false_and, true_and, Bool.not_false, Bool.false_eq_true]
            unfold SkM.cl at hcl
            rw [hx, Int.toNat_natCast] at hcl
            exact h.commitStep hx12 hxd hcl
        · rw [if_neg k1, if_neg k2, if_neg k3, if_neg (fun h => k1 h.1), if_neg (fun h => k2 h.1), if_neg (fun h => k3 h.1)]
          exact h.idleStep hx12 hxd

section
variable {K : SkSt} {S : OfSt} {s : StoL}
theorem SsInv.vno (h : SsInv K S) {i : Nat} (hi : i < 20) : (K.rows (24 + i)).Nodup := by
  rw [List.nodup_iff_pairwise_ne]
  exact (h.vs i hi).imp (fun h e => by rw [e] at h; exact Int.lt_irrefl _ h)
theorem SsInv.vrs (h : SsInv K S) (hT : OfM.Tells S s) {i : Nat} (hi : i < 20) : (s.vrs[i]!).vs = K.rows (24 + i) := by
  rw [hT.vr i hi, h.ve i hi]
theorem SsInv.tales (h : SsInv K S) (hT : OfM.Tells S s) (t : Int) : (∃ u ∈ s.tls, u.tx = t) ↔ 0 ≤ t ∧ t < 12 ∧ K.dn t.toNat = true := by
  have hl : (sortI S.done).length = s.tls.length := by rw [(sortI_perm _).length_eq, hT.len]
  rw [← h.dn t, ← (sortI_perm S.done).mem_iff]
  constructor
  · rintro ⟨u, hu, rfl⟩
    obtain ⟨i, hi, rfl⟩ := List.mem_iff_getElem.1 hu
    have h1 := (hT.tl i hi).1
    rw [getElem!_pos s.tls i hi, getElem!_pos (sortI S.done) i (by omega)] at h1
    rw [h1]; exact List.getElem_mem _
  · intro ht
    obtain ⟨i, hi, rfl⟩ := List.mem_iff_getElem.1 ht
    have h1 := (hT.tl i (by omega)).1
    rw [getElem!_pos s.tls i (by omega), getElem!_pos (sortI S.done) i hi] at h1
    exact ⟨s.tls[i], List.getElem_mem _, h1⟩
/-- What is told of who is over. -/
theorem SsInv.got (h : SsInv K S) (hT : OfM.Tells S s) {u : TaleL} (hu : u ∈ s.tls) : (0 ≤ u.tx ∧ u.tx < 12 ∧ K.dn u.tx.toNat = true) ∧ ∀ g ∈ u.gs, ∃ i : Nat, i < 20 ∧ g.frm = (i : Int) ∧ (i : Int) ∈ K.rows u.tx.toNat ∧ g.to_ ≠ u.tx ∧ g.to_ = SkM.seen K (K.fr u.tx.toNat) (K.rows (24 + i)) := by
  have h0 := (h.tales hT u.tx).1 ⟨u, hu, rfl⟩
  refine ⟨h0, fun g hg => ?_⟩
  obtain ⟨i, hi, rfl⟩ := List.mem_iff_getElem.1 hu
  obtain ⟨h1, h2⟩ := hT.tl i hi
  rw [getElem!_pos s.tls i hi] at h1 h2
  rw [h2, ← h1] at hg
  obtain ⟨k, k1, k2, k3, k4, k5⟩ := h.rd s.tls[i].tx.toNat (by omega) g hg
  exact ⟨k, k1, k2, k3, by omega, k5⟩
theorem SsInv.ok (h : SsInv K S) (hT : OfM.Tells S s) : s.Ok := by
  have hl : (sortI S.done).length = s.tls.length := by rw [(sortI_perm _).length_eq, hT.len]
  refine ⟨?_, by rw [hT.vl]; omega, fun i hi => ?_, fun k hk => ?_⟩
  · have h1 := List.Nodup.length_le_of_subset h.once (l₂ := (List.range 12).map (fun n : Nat => (n : Int))) (fun t ht => by
      have := (h.dn t).1 ht
      exact List.mem_map.2 ⟨t.toNat, List.mem_range.2 (by omega), by omega⟩)
    simp at h1
    rw [hT.len]; exact h1
  · have hm : s.tls[i]! ∈ s.tls := by rw [getElem!_pos s.tls i hi]; exact List.getElem_mem _
    obtain ⟨⟨h1, h2, h3⟩, h4⟩ := h.got hT hm
    refine ⟨h1, h2, fun h0 => ?_, fun g hg => ?_⟩
    · rw [(hT.tl i hi).1, (hT.tl (i - 1) (by omega)).1, getElem!_pos (sortI S.done) i (by omega), getElem!_pos (sortI S.done) (i - 1) (by omega)]
      have ha := List.pairwise_iff_getElem.1 (sortI_pair S.done) (i - 1) i (by omega) (by omega) (by omega)
      have hb := List.pairwise_iff_getElem.1 (List.nodup_iff_pairwise_ne.1 ((sortI_perm S.done).nodup_iff.2 h.once)) (i - 1) i (by omega) (by omega) (by omega)
      omega
    · obtain ⟨k, k1, k2, k3, k4, k5⟩ := h4 g hg
      refine ⟨by omega, by rw [hT.vl]; omega, k4, ?_⟩
      rw [k2, Int.toNat_natCast, h.vrs hT k1]
      rcases SkM.seen_spec K (K.fr (s.tls[i]!).tx.toNat) (K.rows (24 + k)) with ⟨e, _⟩ | ⟨j, hj, e, _⟩
      · exact Or.inl (k5.trans e)
      · right; rw [k5, e]; exact List.getElem_mem hj
  · rw [hT.vl] at hk
    intro i hi
    unfold StoL.WrOk
    rw [h.vrs hT hk] at hi ⊢
    rw [getElem!_pos (K.rows (24 + k)) i hi]
    refine ⟨fun hin => ?_, ?_⟩
    · obtain ⟨j, hj, he⟩ := List.mem_take_iff_getElem.1 hin
      exact List.pairwise_iff_getElem.1 (List.nodup_iff_pairwise_ne.1 (h.vno hk)) j i (by omega) hi (by omega) he
    · have h1 := (h.vm k hk _).1 (List.getElem_mem hi)
      exact (h.tales hT _).2 ⟨h1.1, h1.2.1, h1.2.2.1⟩
/-- Has someone a jump out? -/
def Ss.outs (K : SkSt) (x : Nat) : Bool := (List.range 12).any fun c => K.dn c && decide (c ≠ x) && SkM.skips K x c
/-- Where someone stands, one behind another. -/
def Ss.phi (K : SkSt) (x : Nat) : Int := if Ss.outs K x = true then 2 * K.fr x + 1 else 2 * K.at_ x
theorem SsInv.strong (h : SsInv K S) {x y : Nat} (hx : x < 12) (hy : y < 12) (dx : K.dn x = true) (dy : K.dn y = true) (hle : K.at_ x ≤ K.fr y) : Ss.phi K x < Ss.phi K y := by
  have a := h.at_ x hx dx
  have b := h.at_ y hy dy
  unfold Ss.phi
  split <;> split <;> omega
theorem SsInv.jump (h : SsInv K S) {x y : Nat} (hx : x < 12) (hy : y < 12) (hne : x ≠ y) (dx : K.dn x = true) (dy : K.dn y = true) (hs : SkM.skips K x y = true) : Ss.phi K x < Ss.phi K y := by
  have a := h.at_ y hy dy
  have hox : Ss.outs K x = true := by
    unfold Ss.outs
    exact List.any_eq_true.2 ⟨y, List.mem_range.2 hy, by rw [dy, hs, decide_eq_true (Ne.symm hne)]; rfl⟩
  have hoy : ¬ Ss.outs K y = true := by
    intro ho
    unfold Ss.outs at ho
    obtain ⟨c, hc, h2⟩ := List.any_eq_true.1 ho
    simp only [Bool.and_eq_true, decide_eq_true_eq] at h2
    exact h.pv y hy dy ⟨⟨x, hx, dx, hne, hs⟩, c, List.mem_range.1 hc, h2.1.1, h2.1.2, h2.2⟩
  have hb : K.fr x < K.at_ y := by
    unfold SkM.skips at hs
    rw [Bool.and_eq_true, SkM.beside_iff K x y dx dy, Bool.and_eq_true, decide_eq_true_eq, decide_eq_true_eq] at hs
    exact hs.1.2
  unfold Ss.phi
  rw [if_pos hox, if_neg hoy]
  omega
theorem SsInv.wrote (h : SsInv K S) {k : Nat} (hk : k < 20) {a b : Int} (ha : a ∈ K.rows (24 + k)) (hb : b ∈ K.rows (24 + k)) (hne : a ≠ b) (hlt : K.at_ a.toNat < K.at_ b.toNat) : Ss.phi K a.toNat < Ss.phi K b.toNat := by
  have m1 := (h.vm k hk _).1 ha
  have m2 := (h.vm k hk _).1 hb
  refine h.strong (by omega) (by omega) m1.2.2.1 m2.2.2.1 ?_
  have hm := h.ww a.toNat b.toNat (by omega) (by omega) (by omega) m1.2.2.1 m2.2.2.1
  have ha := h.at_ a.toNat (by omega) m1.2.2.1
  unfold SkM.meets at hm
  rw [SkM.beside_iff K _ _ m1.2.2.1 m2.2.2.1] at hm
  have hany : ((K.rows (12 + a.toNat)).any fun it => decide (it ∈ K.rows (12 + b.toNat))) = true := List.any_eq_true.2 ⟨_, m1.2.2.2, decide_eq_true m2.2.2.2⟩
  rw [hany, Bool.and_true, Bool.and_eq_false_iff, decide_eq_false_iff_not, decide_eq_false_iff_not] at hm
  omega
theorem SsInv.missed (h : SsInv K S) {k : Nat} (hk : k < 20) {x : Nat} (hx : x < 12) (dx : K.dn x = true) (hr : (k : Int) ∈ K.rows x) {b : Int} (hb : b ∈ K.rows (24 + k)) (hne : (x : Int) ≠ b) (hlt : K.fr x < K.at_ b.toNat) : Ss.phi K x < Ss.phi K b.toNat := by
  have m2 := (h.vm k hk _).1 hb
  by_cases hf : K.at_ x ≤ K.fr b.toNat
  · exact h.strong hx (by omega) dx m2.2.2.1 hf
  · refine h.jump hx (by omega) (by omega) dx m2.2.2.1 ?_
    unfold SkM.skips
    rw [SkM.beside_iff K _ _ dx m2.2.2.1, decide_eq_true (by omega), decide_eq_true hlt, Bool.and_self, Bool.true_and]
    exact List.any_eq_true.2 ⟨_, hr, decide_eq_true m2.2.2.2⟩
/-- Along each edge it grows. -/
theorem SsInv.grows (h : SsInv K S) (hT : OfM.Tells S s) {d : DepM} (hd : d ∈ s.deps) : Ss.phi K d.frm.toNat < Ss.phi K d.to_.toNat := by
  have hO := h.ok hT
  rcases StoL.mem_deps.1 hd with ⟨k, hk, i, hi, hd⟩ | ⟨u, hu, g, hg, hd⟩
  · rw [hT.vl] at hk
    rw [h.vrs hT hk] at hi hd
    rw [getElem!_pos (K.rows (24 + k)) i (by omega), getElem!_pos (K.rows (24 + k)) (i + 1) (by omega)] at hd
    obtain ⟨⟨hne, _⟩, he⟩ := DepM.mem_add.1 hd
    rw [he]
    clear he hd
    dsimp only
    exact h.wrote hk (List.getElem_mem _) (List.getElem_mem _) hne (List.pairwise_iff_getElem.1 (h.vs k hk) i (i + 1) (by omega) (by omega) (by omega))
  · obtain ⟨⟨u0, u1, u2⟩, hgs⟩ := h.got hT hu
    obtain ⟨k, k1, k2, k3, k4, k5⟩ := hgs g hg
    have hv := h.vrs hT k1
    unfold DepM.got at hd
    rw [k2, Int.toNat_natCast, hv] at hd
    have hspec := SkM.seen_spec K (K.fr u.tx.toNat) (K.rows (24 + k))
    rcases List.mem_append.1 hd with hd | hd
    · obtain ⟨hne, rfl⟩ := DepM.mem_add.1 hd
      dsimp only
      rcases hspec with ⟨e, _⟩ | ⟨j, hj, e, hle, _⟩
      · rw [← k5] at e; omega
      · have m1 := (h.vm k k1 _).1 (List.getElem_mem hj)
        rw [← e, ← k5] at m1 hle
        exact h.strong (by omega) (by omega) m1.2.2.1 u2 hle
    · unfold DepM.next at hd
      split at hd
      case isFalse => simp at hd
      rename_i hp
      rw [getElem!_pos (K.rows (24 + k)) _ hp] at hd
      obtain ⟨⟨hne, _⟩, he⟩ := DepM.mem_add.1 hd
      rw [he]
      clear he hd
      dsimp only
      have key : K.fr u.tx.toNat < K.at_ ((K.rows (24 + k))[(IntsM.idx (K.rows (24 + k)) g.to_ + 1).toNat]).toNat := by
        rcases hspec with ⟨e, h3⟩ | ⟨j, hj, e, _, h3⟩
        · exact h3 _ (List.getElem_mem hp)
        · have e2 : (IntsM.idx (K.rows (24 + k)) g.to_ + 1).toNat = j + 1 := by
            rw [k5, e, IntsM.idx_at (h.vno k1) hj]; rfl
          exact h3 _ hp (by omega)
      exact h.missed k1 (by omega) u2 k3 (List.getElem_mem hp) (by omega) key
/-- There is an order. -/
theorem SsInv.order (h : SsInv K S) (hT : OfM.Tells S s) : GrM.order 12 (s.edges 3) ≠ none := by
  intro hn
  obtain ⟨a, ha, hp⟩ := GrM.order_none_iff.1 hn
  have hO := h.ok hT
  have hE : ∀ x y, GrM.E (s.edges 3) x y = true → Ss.phi K x < Ss.phi K y := by
    intro x y hxy
    rw [GrM.E_iff, StoL.edges_all hO] at hxy
    obtain ⟨d, hd, he⟩ := List.mem_map.1 hxy
    have := h.grows hT (StoL.mem_told.1 hd)
    unfold DepM.eg at he
    injection he with e1 e2
    rw [e1, e2, Int.toNat_natCast, Int.toNat_natCast] at this
    exact this
  have key : ∀ {x y}, GrM.Path 12 (s.edges 3) x y → Ss.phi K x < Ss.phi K y := by
    intro x y hp
    induction hp with
    | one _ h2 => exact hE _ _ h2
    | more _ _ h2 ih => exact Int.lt_trans ih (hE _ _ h2)
  exact Int.lt_irrefl _ (key hp)
end
/-- What commits has an order. -/
theorem Ss.all {l : List OpM} (hc : RunM.check l = 0) {s : StoL} (hT : OfM.Tells (OfM.run l (SkM.play l) l.length) s) : s.Ok ∧ GrM.order 12 (s.edges 3) ≠ none := by
  have h := Ss.run l hc l.length (Nat.le_refl _)
  exact ⟨h.ok hT, h.order hT⟩
end
end Go.Proofs.Ytgkclgmekbgjmaa
