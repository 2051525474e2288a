/- wait.Victims: what it computes. -/
import Derived.Test.YtnnkejolfhhmlaaGreatTjL
import Derived.Test.YtnnkejolfhhmlaaGreatVicV
import Derived.Test.YtnnkejolfhhmlaaGreatOpen
import Derived.Test.YtnnkejolfhhmlaaGreatEgC
import Derived.Deep.Strs
import Derived.Lib.SmallJoins
import Derived.Deep.DeepMust
import Derived.Lib.LazyBuf
import Derived.Test.YtnnkejolfhhmlaaGreatDelG
import Derived.Test.YtnnkejolfhhmlaaGreatIntSort
import Derived.Test.YtnnkejolfhhmlaaGreatGrOR
namespace Go.Proofs.YtnnkejolfhhmlaaGreat
section
open Go.RowKit Go.Lib
namespace VicM
/-- Does a part wait for ever? -/
def cyc (l : List EgM) (p : List Nat) : Bool := decide (1 < p.length) || GrM.E l p[0]! p[0]!
theorem cyc_iff {n : Nat} {l : List EgM} {P : List (List Nat)} {p : List Nat} {k : Nat} (h : TjM.IsParts n l P) (hp : p ∈ P) (hk : k ∈ p) : cyc l p = true ↔ GrM.Path n l k k := by
  obtain ⟨h1, h2, h3⟩ := h.scc p hp
  have hlt : ∀ x ∈ p, x < n := fun x hx => (h.mem x).1 (List.mem_flatten.2 ⟨p, hp, hx⟩)
  have hm := head_mem h1
  have hcase : ∀ b ∈ p, b ≠ k → GrM.Path n l k k := fun b hb hbk => by
    obtain ⟨h4, h5⟩ := (h3 k hk b (hlt b hb)).1 hb
    rcases h4 with h4 | h4
    · exact absurd h4.symm hbk
    · rcases h5 with h5 | h5
      · exact absurd h5 hbk
      · exact h4.trans h5
  unfold cyc
  rw [Bool.or_eq_true, decide_eq_true_iff]
  constructor
  · rintro (h4 | h4)
    · obtain ⟨b, hb, hbk⟩ : ∃ b ∈ p, b ≠ k := by
        match p, h4, h2 with
        | a :: c :: r, _, h2 =>
          rw [List.pairwise_cons] at h2
          have hac := h2.1 c List.mem_cons_self
          by_cases e : a = k
          · exact ⟨c, by simp, by omega⟩
          · exact ⟨a, by simp, e⟩
      exact hcase b hb hbk
    · by_cases e : p[0]! = k
      · rw [e] at h4
        exact .one (hlt k hk) h4
      · exact hcase _ hm e
  · intro hpath
    by_cases h4 : 1 < p.length
    · exact Or.inl h4
    · right
      have hpk : p = [k] := by
        match p, h4, hk with
        | [a], _, hk => rw [List.mem_singleton] at hk; rw [hk]
        | a :: c :: r, h4, _ => exact absurd (by simp) h4
      have hE : GrM.E l k k = true := by
        generalize hkk : k = y at hpath
        have hy : GrM.Path n l k y := by rw [hkk]; exact hpath
        clear hpath
        cases hy with
        | one _ h6 => rw [hkk] at h6; exact h6
        | @more b _ h5 h6 h7 =>
          rw [← hkk] at h6 h7
          have : b ∈ p := (h3 k hk b h5.lt).2 ⟨Or.inr h5, Or.inr (.one h6 h7)⟩
          rw [hpk, List.mem_singleton] at this
          rw [this] at h7
          rw [← hkk]; exact h7
      rw [hpk]
      exact hE
theorem le_last : ∀ {p : List Nat}, p.Pairwise (· < ·) → ∀ (hl : 0 < p.length) (x : Nat), x ∈ p → x ≤ p[p.length - 1] := fun {p} h hl x hx => by
  obtain ⟨i, hi, rfl⟩ := List.mem_iff_getElem.1 hx
  by_cases e : i = p.length - 1
  · simp [e]
  · exact Nat.le_of_lt (List.pairwise_iff_getElem.1 h i (p.length - 1) hi (by omega) (by omega))
/-- The worst of the first parts. -/
structure Worst (n : Nat) (l : List EgM) (P : List (List Nat)) (i : Nat) (wo : Int) : Prop where
  le : ∀ q (h : q < P.length), q < i → cyc l P[q] = true → ∀ k ∈ P[q], (k : Int) ≤ wo
  is : wo = -1 ∨ ∃ k : Nat, k < n ∧ GrM.Path n l k k ∧ wo = k
section
variable {n : Nat} {l : List EgM} {P : List (List Nat)} {i : Nat} {wo : Int}
theorem Worst.start : Worst n l P 0 (-1) := ⟨fun q _ h => by omega, Or.inl rfl⟩
theorem Worst.skip (h : Worst n l P i wo) (hi : i < P.length) (hc : cyc l P[i] = false) : Worst n l P (i + 1) wo :=
  ⟨fun q hq hqi hcq k hk => by
    by_cases e : q = i
    · subst e; rw [hc] at hcq; cases hcq
    · exact h.le q hq (by omega) hcq k hk, h.is⟩
theorem Worst.take (h : Worst n l P i wo) (hP : TjM.IsParts n l P) (hi : i < P.length) (hc : cyc l P[i] = true) (h0 : 0 < P[i].length) : Worst n l P (i + 1) (max wo ((P[i][P[i].length - 1] : Nat) : Int)) := by
  have hm : P[i][P[i].length - 1] ∈ P[i] := List.getElem_mem _
  have hpath := (cyc_iff hP (List.getElem_mem hi) hm).1 hc
  refine ⟨fun q hq hqi hcq k hk => ?_, ?_⟩
  · by_cases e : q = i
    · subst e
      have := le_last (hP.scc _ (List.getElem_mem hi)).2.1 h0 k hk
      omega
    · have := h.le q hq (by omega) hcq k hk
      omega
  · have hlt : P[i][P[i].length - 1] < n := (hP.mem _).1 (List.mem_flatten.2 ⟨_, List.getElem_mem hi, hm⟩)
    by_cases e : wo ≤ ((P[i][P[i].length - 1] : Nat) : Int)
    · exact Or.inr ⟨_, hlt, hpath, by omega⟩
    · rcases h.is with h1 | ⟨k, h1, h2, h3⟩
      · omega
      · exact Or.inr ⟨k, h1, h2, by omega⟩
theorem Worst.none (h : Worst n l P P.length wo) (hP : TjM.IsParts n l P) (h0 : wo < 0) (k : Nat) (hk : k < n) : ¬ GrM.Path n l k k := fun hp => by
  obtain ⟨p, hpP, hkp⟩ := List.mem_flatten.1 ((hP.mem k).2 hk)
  obtain ⟨q, hq, rfl⟩ := List.mem_iff_getElem.1 hpP
  have := h.le q hq hq ((cyc_iff hP hpP hkp).2 hp) k hkp
  omega
theorem Worst.some (h : Worst n l P P.length wo) (hP : TjM.IsParts n l P) (h0 : ¬ wo < 0) : ∃ k : Nat, wo = k ∧ k < n ∧ GrM.Path n l k k ∧ ∀ j, GrM.Path n l j j → j ≤ k := by
  rcases h.is with h1 | ⟨k, h1, h2, h3⟩
  · omega
  · refine ⟨k, h3, h1, h2, fun j hj => ?_⟩
    obtain ⟨p, hpP, hkp⟩ := List.mem_flatten.1 ((hP.mem j).2 hj.lt)
    obtain ⟨q, hq, rfl⟩ := List.mem_iff_getElem.1 hpP
    have := h.le q hq hq ((cyc_iff hP hpP hkp).2 hj) j hkp
    omega
end
theorem path_out {n : Nat} {l : List EgM} {a b : Nat} (h : GrM.Path n l a b) : ∃ c, GrM.E l a c = true := by
  induction h with
  | one _ h2 => exact ⟨_, h2⟩
  | more _ _ _ ih => exact ih
theorem del_lt {n : Nat} {l : List EgM} {k : Nat} (h : GrM.Path n l k k) : (del (k : Int) l).length < l.length := by
  obtain ⟨c, hc⟩ := path_out h
  rw [GrM.E_iff] at hc
  unfold del
  exact (List.length_filter_lt_length_iff_exists).2 ⟨_, hc, by simp⟩
theorem Vic.empty {n : Nat} {l : List EgM} {out : List Nat} (h : Vic n l out) : out = [] ↔ GrM.order n l ≠ none := by
  rw [Ne, GrM.order_none_iff]
  cases h with
  | done h => simp only [true_iff]; rintro ⟨a, _, hp⟩; exact h a hp
  | step h1 _ _ => simp only [reduceCtorEq, false_iff, Classical.not_not]; exact ⟨_, h1.lt, h1⟩
theorem Vic.after {n : Nat} {l : List EgM} {out : List Nat} (h : Vic n l out) (L : List EgM) (hL : L = l.filter fun e => !(decide (e.frm ∈ GrM.ints out) || decide (e.to_ ∈ GrM.ints out))) : GrM.order n L ≠ none := by
  induction h with
  | @done l h =>
    rw [Ne, GrM.order_none_iff]
    rintro ⟨a, _, hp⟩
    have : L = l := by rw [hL]; exact List.filter_eq_self.2 (fun x _ => by simp [GrM.ints])
    rw [this] at hp
    exact h a hp
  | @step l k out h1 h2 h3 ih =>
    refine ih ?_
    rw [hL]
    unfold del
    rw [List.filter_filter]
    apply List.filter_congr
    intro x _
    simp only [GrM.ints, List.map_cons, List.mem_cons, Bool.decide_or, Bool.not_or]
    rw [show (x.frm == (k : Int)) = decide (x.frm = k) from rfl, show (x.to_ == (k : Int)) = decide (x.to_ = k) from rfl]
    cases decide (x.frm = k) <;> cases decide (x.to_ = k) <;> simp
theorem Vic.len {n : Nat} {l : List EgM} {out : List Nat} (h : Vic n l out) : out.length ≤ l.length := by
  induction h with
  | done _ => simp
  | step h1 _ _ ih => have := del_lt h1; simp only [List.length_cons]; omega
theorem Vic.lt {n : Nat} {l : List EgM} {out : List Nat} (h : Vic n l out) : ∀ k ∈ out, k < n := by
  induction h with
  | done _ => simp
  | step h1 _ _ ih =>
    intro k hk
    rcases List.mem_cons.1 hk with rfl | hk
    · exact h1.lt
    · exact ih k hk
def ex : List EgM := [⟨0, 1⟩, ⟨1, 0⟩]
theorem ex_vic {out : List Nat} (h : Vic 3 ex out) : out = [1] := by
  have hE : ∀ a b, GrM.E ex a b = true ↔ (a = 0 ∧ b = 1) ∨ (a = 1 ∧ b = 0) := fun a b => by
    rw [GrM.E_iff]; unfold ex; simp; omega
  have h1 : GrM.Path 3 ex 1 1 := .more (.one (by omega) ((hE 1 0).2 (by omega))) (by omega) ((hE 0 1).2 (by omega))
  have h2 : ∀ a b, GrM.Path 3 ex a b → b ≤ 1 := fun a b hp => by
    cases hp with
    | one _ h => have := (hE _ _).1 h; omega
    | more _ _ h => have := (hE _ _).1 h; omega
  cases h with
  | done h => exact absurd h1 (h 1)
  | @step _ k out h3 h4 h5 =>
    have h6 := h2 k k h3
    have h7 := h4 1 h1
    obtain rfl : k = 1 := by omega
    have hd : del ((1 : Nat) : Int) ex = [] := by decide
    rw [hd] at h5
    cases h5 with
    | done _ => rfl
    | step h8 _ _ =>
      obtain ⟨c, hc⟩ := path_out h8
      rw [GrM.E_iff] at hc
      cases hc
end VicM
end
section
section
open Go.ChangeShapes Go.WideShapes Go.ChangeAt Go.RowKit Go.ChangeMaps Go.Deep

theorem Tryz.cellsEg : Tryz.prog.cellsOf 180 = 2 := by kernel_rfl
theorem Tryz.cellsIntE : Tryz.prog.cellsOf 3 = 1 := by kernel_rfl
theorem Tryz.bytesEg : Tryz.prog.bytesOf 180 = 16 := by kernel_rfl
theorem Tryz.infoEg : (Tryz.prog.info? 180).map (fun i => (i.zero, i.size, i.bytes)) = some (some (.agg #[.int .i64 0, .int .i64 0]), 2, 16) := by kernel_rfl

section
variable {H : Type} {enc : TypeId × Value → H} {w : World}
set_option maxRecDepth 100000 in
theorem open_eg {n : Nat} {cs : List Value} {x : DataW H × List MemPlace} (h : DataW.trod enc Tryz.prog w 0 (fun _ => true) true n 180 cs = some x) :
    ∃ o : EgM, cs = [.int .i64 o.frm, .int .i64 o.to_] := by
  obtain ⟨y0, y1, m, rfl, hl, h0, h1⟩ := trod_struct2 Tryz.underlying180 h
  rw [Tryz.cellsEg] at hl
  match cs, hl with
  | [c0, c1], _ =>
    simp only [Tryz.cellsIntE, List.drop_zero, List.take_succ_cons, List.take_zero, List.drop_succ_cons] at h0 h1
    obtain ⟨x0, e0, rfl, _⟩ := DataW.trod_int Tryz.underlying3 h0
    obtain ⟨x1, e1, rfl, _⟩ := DataW.trod_int Tryz.underlying3 h1
    simp only [List.cons.injEq, and_true] at e0 e1
    subst e0; subst e1
    exact ⟨⟨x0, x1⟩, rfl⟩

set_option maxRecDepth 100000 in
/-- Edges that came in. -/
theorem open_egs {r : Reach} {b0 : Nat} {v : Value} {d : DataW H} {p : List MemPlace} (hval : Value.okWide Tryz.prog w r b0 148 v) (h : DataW.Trod enc Tryz.prog w 0 (fun _ => true) true 148 v d p) (hsz : ∀ n ∈ d.weights Tryz.prog 148, n ≤ reachBytes) :
    ∃ ao cap L, v = .slice ao L.length cap ∧ EgsAt w ao L ∧ L.length ≤ cap ∧ (ao = none → cap = 0) ∧ L.length ≤ 8796093022200 := by
  obtain ⟨a0, n0, c0, rfl⟩ := okWide_slice Tryz.underlying148 hval
  obtain ⟨fuel, hf⟩ := h
  have hf : DataW.trod enc Tryz.prog w 0 (fun _ => true) true fuel 148 [.slice a0 n0 c0] = some (d, p) := hf
  have hr : reachBytes = 140737488351232 := rfl
  rcases Open.slice_rows (w := w) Tryz.underlying148 Tryz.cellsEg (by omega) hf with ⟨h1, e⟩ | ⟨a, len, cap, m, D, Pl, h1, hle, hmx, e, hel, hpl⟩
  · rw [h1]
    exact ⟨none, 0, [], rfl, Or.inl rfl, Nat.le_refl _, fun _ => rfl, by decide⟩
  · simp only at e
    rw [e] at hsz
    have hcap := hsz _ (Open.weights_cap Tryz.underlying148)
    rw [Tryz.bytesEg] at hcap
    simp only [List.length_map, List.length_range] at hcap
    obtain ⟨F, hF⟩ := choose_lt (α := EgM) (n := len) (p := fun i s => w.cell? (a.add (i * 2 + 0)) = some (.int .i64 s.frm) ∧ w.cell? (a.add (i * 2 + 1)) = some (.int .i64 s.to_)) (fun i hi => by
      obtain ⟨cs', c1, c2, c3⟩ := hel i hi
      obtain ⟨o, rfl⟩ := open_eg c3
      exact ⟨o, c2 0 (by omega), c2 1 (by omega)⟩)
    have hlen : ((List.range len).map F).length = len := by simp
    refine ⟨some a, cap, (List.range len).map F, (by rw [hlen, h1]), ?_, (by rw [hlen]; exact hle), (fun h => by cases h), (by rw [hlen]; omega)⟩
    by_cases h0 : len = 0
    · left; subst h0; rfl
    · right
      obtain ⟨b, off, rfl, hb⟩ := hpl (by omega)
      refine ⟨b, off, rfl, hb, fun k hk => ?_⟩
      rw [hlen] at hk
      obtain ⟨f1, f2⟩ := hF k hk
      rw [Addr.add_lit] at f1 f2
      simp only [List.getElem_map, List.getElem_range]
      exact ⟨f1, f2⟩
end
end
section
open Go.RowKit Go.Lib

set_option maxRecDepth 20000 in
set_option maxHeartbeats 2000000 in
theorem clone_egs (l : List EgM) (ao : Option Addr) (cap : Nat) (w : World) (h : EgsAt w ao l) (hnil : ao = none → cap = 0) (hn : l.length ≤ 1000000000) :
    Calls Tryz.prog 110 #[.slice ao l.length cap] w fun e w' => (∃ v, e = .returned v ∧ w'.ownsRow w.heap.size 180 2 v l.length (egVals l)) ∧ Below w.heap.size w w' := by
  have H := box h
  clear h
  have q0 := fun (w : World) (a : Option Addr) (n c : Nat) => _root_.Go.run_eql_slice_nil (P := Tryz.prog) w 148 180 a n c Tryz.underlying148
  cases ao with
  | none =>
    have hl : l = [] := H.out.resolve_right (by rintro ⟨b, off, h, _⟩; cases h)
    have hc := hnil rfl
    subst hl
    subst hc
    go_enter Tryz.func110, Tryz.ntmps110
    go_wp2_with fail
    go_ret
    exact ⟨⟨_, rfl, World.ownsRow_nil _ _ _ _⟩, Below.refl _ _⟩
  | some ad =>
    obtain ⟨i0, hi0, hz0, hz1, hz2⟩ := info_parts Tryz.infoEg
    have Hcs : Box (∀ wx, Below w.heap.size w wx → ∀ j u, (egVals l)[j]? = some u → wx.cell? (ad.add j) = some u) := ⟨fun wx hx j u hu => by
      rcases H.out with h | ⟨b, off, h1, h2, h3⟩
      · subst h; simp [egVals] at hu
      · injection h1 with h1
        subst h1
        have hj : j < l.length * 2 := by have := (List.getElem?_eq_some_iff.1 hu).1; rw [egVals_len] at this; exact this
        rw [Addr.add_lit]
        refine (hx.cell (p := ⟨b, off + j, none⟩) h2).trans ?_
        have hk : j / 2 < l.length := by omega
        obtain ⟨a0, a1⟩ := egVals_at l (j / 2) hk
        obtain ⟨c0, c1⟩ := h3 (j / 2) hk
        rcases Nat.mod_two_eq_zero_or_one j with e | e
        · have ej : j / 2 * 2 = j := by omega
          rw [ej] at a0 c0
          rw [c0, ← a0, hu]
        · have ej : j / 2 * 2 + 1 = j := by omega
          rw [ej] at a1
          rw [show off + j / 2 * 2 + 1 = off + j by omega] at c1
          rw [c1, ← a1, hu]⟩
    clear hnil
    go_enter Tryz.func110, Tryz.ntmps110
    have hown := World.ownsRow_lit (base := w.heap.size) (e := 180) (size := 2) w #[] 0 (Nat.le_refl _) (Nat.zero_le _) rfl
    have HB := box ((Below.refl w.heap.size w).alloc (Nat.le_refl _) (.cells #[] 180))
    go_wp2_with (at_builtin; go_must (refine wpList_append_own _ rfl _ _ 148 rfl w.heap.size 180 i0 _ 2 16 Tryz.underlying148 hi0 hz0 hz1 hz2 rfl (by decide) _ _ _ rfl hown ad l.length cap (egVals l) rfl (egVals_len l) (Hcs.out _ HB.out) (egVals_one l) (by unfold maxLen; omega) (by omega) (by simp) ?_))
    intro v' w9 hown3 hgrow _
    have HB9 := box (HB.out.grown hgrow (by simp) (fun j hj => by have := hown.lt j hj; omega))
    clear hgrow hown
    go_wp2_with fail
    go_ret
    exact ⟨⟨_, rfl, by simpa using hown3⟩, HB9.out⟩
end
end
section
section
open Go.RowKit Go.Lib

/-- Function g, with lb behind, tells p of an edge, in world W; it may lay blocks. -/
def TellsEg (g : Nat) (lb : Array Value) (p : EgM → Bool) (l : List EgM) (W : World) : Prop := ∀ o ∈ l, Calls Tryz.prog g (#[.agg #[.int .i64 o.frm, .int .i64 o.to_]] ++ lb) W fun e w' => e = .returned (.bool (p o)) ∧ Below W.heap.size W w'
def EgsM.find (p : EgM → Bool) (l : List EgM) : Int := if l.findIdx p < l.length then (l.findIdx p : Int) else -1

set_option maxRecDepth 20000 in
set_option maxHeartbeats 1000000 in
theorem indexFunc_egs (l : List EgM) (ao : Option Addr) (cap g : Nat) (lb : Array Value) (p : EgM → Bool) (w : World) (h : EgsAt w ao l) (hn : l.length ≤ 9000000000000000000) (hp : ∀ W, Below w.heap.size w W → TellsEg g lb p l W)
    (eg : ∀ args w, (callFunc g args).run Tryz.prog w = .ok (.enter g args) w) :
    Calls Tryz.prog 138 #[.slice ao l.length cap, .func (.func g) #[] lb] w fun e w' => e = .returned (.int .i64 (EgsM.find p l)) ∧ Below w.heap.size w w' := by
  have H := box h; have Hp := box hp
  clear h hp
  go_enter Tryz.func138, Tryz.ntmps138
  go_wp2_with fail
  go_loopw [8] (fun t8 wr => ∃ k : Nat, k ≤ l.length ∧ t8 = .int .i64 (k : Int) ∧ Box (∀ j (h : j < l.length), j < k → p l[j] = false) ∧ Box (Below w.heap.size w wr)) (fun t8 _ => l.length - (RowKit.intOf t8).toNat)
  case atStart => exact ⟨0, Nat.zero_le _, rfl, ⟨fun j _ h => by omega⟩, ⟨Below.refl _ _⟩⟩
  case round =>
    obtain ⟨k, hk, rfl, Hall, Hb⟩ := hrel
    by_cases hlt : k < l.length
    · obtain ⟨b, off, rfl, hb, hrow⟩ := ((H.out.below Hb.out (Nat.le_refl _)).resolve_left (by intro h; rw [h] at hlt; simp at hlt))
      obtain ⟨hc0, hc1⟩ := hrow k hlt
      have Hc := box (Hp.out _ Hb.out l[k] (List.getElem_mem hlt))
      have HF : Box (p l[k] = true → EgsM.find p l = (k : Int)) := ⟨fun h => by
        have : l.findIdx p = k := by
          rw [List.findIdx_eq (by omega)]
          exact ⟨h, fun j hj => Hall.out j (by omega) hj⟩
        unfold EgsM.find
        rw [this, if_pos hlt]⟩
      have HN : Box (p l[k] = false → ∀ j (h : j < l.length), j < k + 1 → p l[j] = false) := ⟨fun h j hj h2 => by
        by_cases e : j = k
        · subst e; exact h
        · exact Hall.out j hj (by omega)⟩
      generalize l[k] = o at *
      clear hrow
      go_wp2_with fail
      refine (Hc.out).mono ?_
      rintro e w' ⟨rfl, hb'⟩
      have HB' := box (below_tr Hb.out hb')
      clear hb'
      generalize p o = v at *
      cases v with
      | true =>
        go_wp2_with fail
        go_ret
        exact ⟨by rw [HF.out (by simp)]; rfl, HB'.out⟩
      | false =>
        go_wp2_with fail
        go_roundw
        case rel => exact ⟨k + 1, hlt, by go_num, ⟨HN.out (by simp)⟩, HB'⟩
        case measure => simp [RowKit.intOf]; omega
    · have HF : Box (EgsM.find p l = -1) := ⟨by
        unfold EgsM.find
        rw [if_neg]
        intro h
        have h2 := List.findIdx_getElem (w := h)
        have := Hall.out _ h (by omega)
        rw [this] at h2; simp at h2⟩
      go_wp2_with fail
      go_ret
      exact ⟨by rw [HF.out]; rfl, Hb.out⟩
theorem EgsM.find_ge (p : EgM → Bool) (l : List EgM) : decide (0 ≤ EgsM.find p l) = l.any p := by
  unfold EgsM.find
  by_cases h : l.findIdx p < l.length
  · have h2 := List.findIdx_getElem (w := h)
    rw [if_pos h, decide_eq_true (by omega)]
    exact (List.any_eq_true.2 ⟨_, List.getElem_mem h, h2⟩).symm
  · rw [if_neg h]
    have h1 : l.findIdx p = l.length := by have := List.findIdx_le_length (p := p) (xs := l); omega
    rw [List.findIdx_eq_length] at h1
    have : l.any p = false := by
      rw [List.any_eq_false]
      intro x hx
      rw [h1 x hx]; simp
    rw [this]; rfl
theorem containsFunc_egs (l : List EgM) (ao : Option Addr) (cap g : Nat) (lb : Array Value) (p : EgM → Bool) (w : World) (h : EgsAt w ao l) (hn : l.length ≤ 9000000000000000000) (hp : ∀ W, Below w.heap.size w W → TellsEg g lb p l W)
    (eg : ∀ args w, (callFunc g args).run Tryz.prog w = .ok (.enter g args) w) :
    Calls Tryz.prog 112 #[.slice ao l.length cap, .func (.func g) #[] lb] w fun e w' => e = .returned (.bool (l.any p)) ∧ Below w.heap.size w w' := by
  have HC := box (indexFunc_egs l ao cap g lb p w h hn hp eg)
  have HI := box (EgsM.find_ge p l)
  clear h hp eg
  go_enter Tryz.func112, Tryz.ntmps112
  go_wp2_with fail
  refine HC.out.mono ?_
  rintro e w' ⟨rfl, hb⟩
  have HB := box hb
  clear hb
  generalize EgsM.find p l = y at *
  go_wp2_with fail
  go_ret
  exact ⟨by rw [← HI.out]; rfl, HB.out⟩
end
section
open Go.RowKit Go.Lib

theorem egVals_set (l : List EgM) : ∀ (i : Nat) (x : EgM), i < l.length → ((egVals l).set (i * 2) (.int .i64 x.frm)).set (i * 2 + 1) (.int .i64 x.to_) = egVals (l.set i x) := by
  induction l with
  | nil => intro i x h; simp at h
  | cons a r ih =>
    intro i x h
    cases i with
    | zero => rfl
    | succ i =>
      have := ih i x (by simpa using h)
      rw [show (i + 1) * 2 = i * 2 + 2 by omega]
      simp only [egVals, List.flatMap_cons, List.cons_append, List.nil_append, List.set_cons_succ] at this ⊢
      rw [this]
theorem egVals_take (l : List EgM) : ∀ i, (egVals l).take (i * 2) = egVals (l.take i) := by
  induction l with
  | nil => intro i; simp [egVals]
  | cons a r ih =>
    intro i
    cases i with
    | zero => simp [egVals]
    | succ i =>
      have := ih i
      rw [show (i + 1) * 2 = i * 2 + 2 by omega]
      simp only [egVals, List.flatMap_cons, List.cons_append, List.nil_append, List.take_succ_cons] at this ⊢
      rw [this]

/-- What a function called for each edge in turn does: it tells p, moves I on, and leaves the row. -/
structure EgTurns (base g : Nat) (lb : Array Value) (p : EgM → Bool) (l : List EgM) (v : Value) (I : Nat → World → Prop) : Prop where
  call : ∀ j (hj : j < l.length) W, I j W → (∀ b, v.ownBlock = some b → b < W.heap.size) → Calls Tryz.prog g (#[.agg #[.int .i64 l[j].frm, .int .i64 l[j].to_]] ++ lb) W fun e w' => e = .returned (.bool (p l[j])) ∧ I (j + 1) w' ∧ W.heap.size ≤ w'.heap.size ∧ ∀ b, base ≤ b → b < W.heap.size → w'.heap[b]? = W.heap[b]?
  alloc : ∀ j W o, I j W → I j (W.alloc o)
  store : ∀ j W b i u, I j W → v.ownBlock = some b → I j (W.setCell ⟨b, i, none⟩ u)
/-- What IndexFunc leaves. -/
def EgIdxPost (base : Nat) (v : Value) (l : List EgM) (p : EgM → Bool) (I : Nat → World → Prop) (w : World) (e : Ending) (w' : World) : Prop :=
  w'.ownsRow base 180 2 v l.length (egVals l) ∧ w.heap.size ≤ w'.heap.size ∧
    ((l.findIdx p < l.length ∧ e = .returned (.int .i64 (l.findIdx p : Nat)) ∧ I (l.findIdx p + 1) w') ∨ (l.findIdx p = l.length ∧ e = .returned (.int .i64 (-1)) ∧ I l.length w'))

set_option maxRecDepth 20000 in
set_option maxHeartbeats 1000000 in
theorem indexFunc_egsT (l : List EgM) (v : Value) (base g : Nat) (lb : Array Value) (p : EgM → Bool) (I : Nat → World → Prop) (w : World) (h : w.ownsRow base 180 2 v l.length (egVals l)) (hn : l.length ≤ 9000000000000000000) (hI : I 0 w) (ht : EgTurns base g lb p l v I)
    (eg : ∀ args w, (callFunc g args).run Tryz.prog w = .ok (.enter g args) w) :
    Calls Tryz.prog 138 #[v, .func (.func g) #[] lb] w (EgIdxPost base v l p I w) := by
  obtain ⟨ao, cap, rfl, _, _, _, _⟩ := EgsAt.own h
  have H := box h; have HI := box hI; have HT := box ht
  clear h hI ht
  obtain ⟨N, HN⟩ : ∃ N, Box (l.length = N) := ⟨_, ⟨rfl⟩⟩
  rw [HN.out] at H HT hn ⊢
  go_enter Tryz.func138, Tryz.ntmps138
  go_wp2_with fail
  go_loopw [8] (fun t8 wr => ∃ k : Nat, k ≤ N ∧ t8 = .int .i64 (k : Int) ∧ Box ((∀ j (h : j < l.length), j < k → p l[j] = false) ∧ I k wr ∧ wr.ownsRow base 180 2 (.slice ao N cap) N (egVals l) ∧ w.heap.size ≤ wr.heap.size)) (fun t8 _ => N - (RowKit.intOf t8).toNat)
  case atStart => exact ⟨0, Nat.zero_le _, rfl, ⟨fun j _ h => by omega, HI.out, H.out, Nat.le_refl _⟩⟩
  case round =>
    obtain ⟨k, hk, rfl, HR⟩ := hrel
    by_cases hlt : k < N
    · have hkl : k < l.length := by rw [HN.out]; exact hlt
      obtain ⟨ro, rc, h1, hz1, hat, hz2, hz3⟩ := EgsAt.own HR.out.2.2.1
      clear hz1 hz2 hz3
      injection h1 with h1 h2 h3
      subst h1
      clear h2 h3
      obtain ⟨b, off, rfl, hb, hrow⟩ := hat.resolve_left (by intro h; rw [h] at hkl; simp at hkl)
      obtain ⟨hc0, hc1⟩ := hrow k hkl
      have Hc := box (HT.out.call k hkl wr HR.out.2.1 (fun b hb => (HR.out.2.2.1.lt b hb).2))
      have HF : Box (p l[k] = true → l.findIdx p = k) := ⟨fun h => by
        rw [List.findIdx_eq (by omega)]
        exact ⟨h, fun j hj => HR.out.1 j (by omega) hj⟩⟩
      have HNo : Box (p l[k] = false → ∀ j (h : j < l.length), j < k + 1 → p l[j] = false) := ⟨fun h j hj h2 => by
        by_cases e : j = k
        · subst e; exact h
        · exact HR.out.1 j hj (by omega)⟩
      obtain ⟨o, HOe⟩ : ∃ o, Box (l[k] = o) := ⟨_, ⟨rfl⟩⟩
      rw [HOe.out] at hc0 hc1 Hc HF HNo
      clear hrow hat
      go_wp2_with fail
      refine (Hc.out).mono ?_
      rintro e w' ⟨rfl, hi', hsz, hbl⟩
      have HO' := box (own_same HR.out.2.2.1 (fun b hb => hbl b (HR.out.2.2.1.lt b hb).1 (HR.out.2.2.1.lt b hb).2))
      have HI' := box hi'
      have HS' : Box (w.heap.size ≤ w'.heap.size) := ⟨Nat.le_trans HR.out.2.2.2 hsz⟩
      clear hi' hsz hbl
      cases hv : p o with
      | true =>
        have hfk := HF.out hv
        go_wp2_with fail
        go_ret
        refine ⟨by rw [HN.out]; exact HO'.out, HS'.out, Or.inl ⟨by rw [hfk, HN.out]; exact hlt, by rw [hfk]; rfl, by rw [hfk]; exact HI'.out⟩⟩
      | false =>
        have HN2 := box (HNo.out hv)
        go_wp2_with fail
        go_roundw
        case rel => exact ⟨k + 1, hlt, by go_num, ⟨HN2.out, HI'.out, HO'.out, HS'.out⟩⟩
        case measure => simp [RowKit.intOf]; omega
    · obtain rfl : k = N := by omega
      have HF : Box (l.findIdx p = l.length) := ⟨by
        rw [List.findIdx_eq_length]
        intro x hx
        obtain ⟨j, hj, rfl⟩ := List.mem_iff_getElem.1 hx
        exact HR.out.1 j hj (by have := HN.out; omega)⟩
      go_wp2_with fail
      go_ret
      exact ⟨by rw [HN.out]; exact HR.out.2.2.1, HR.out.2.2.2, Or.inr ⟨HF.out, rfl, by rw [HN.out]; exact HR.out.2.1⟩⟩
theorem Tryz.zeroEg (w : World) : (zeroValue 180).run Tryz.prog w = .ok (.agg #[.int .i64 0, .int .i64 0]) w := by kernel_rfl
/-- What DeleteFunc leaves. -/
def EgDelPost (base : Nat) (v : Value) (l : List EgM) (n : Nat) (I : Nat → World → Prop) (w : World) (e : Ending) (w' : World) : Prop :=
  ∃ v', e = .returned v' ∧ v'.ownBlock = v.ownBlock ∧ w'.ownsRow base 180 2 v' l.length (egVals l) ∧ I n w' ∧ w.heap.size ≤ w'.heap.size
theorem EgTurns.cells {base g : Nat} {lb : Array Value} {p : EgM → Bool} {l : List EgM} {v : Value} {I : Nat → World → Prop} (h : EgTurns base g lb p l v I) {b : Nat} (hb : v.ownBlock = some b) {j : Nat} : ∀ (vs : List Value) (o : Nat) (W : World), I j W → I j (W.setCells b o vs)
  | [], _, _, hI => hI
  | u :: r, o, W, hI => EgTurns.cells h hb r (o + 1) _ (h.store j W b o u hI hb)

set_option maxRecDepth 20000 in
set_option maxHeartbeats 4000000 in
theorem deleteFunc_egsT (l : List EgM) (v : Value) (base g : Nat) (lb : Array Value) (p : EgM → Bool) (I : Nat → World → Prop) (w : World) (h : w.ownsRow base 180 2 v l.length (egVals l)) (hn : l.length ≤ 9000000000000000000) (hI : I 0 w) (ht : EgTurns base g lb p l v I)
    (eg : ∀ args w, (callFunc g args).run Tryz.prog w = .ok (.enter g args) w) :
    Calls Tryz.prog 115 #[v, .func (.func g) #[] lb] w (EgDelPost base v (l.filter (fun x => !p x)) l.length I w) := by
  have HIx := box (indexFunc_egsT l v base g lb p I w h hn hI ht eg)
  obtain ⟨ao, cap, rfl, hz1, hz2, hz3, hcap⟩ := EgsAt.own h
  have HT := box ht
  clear h hI ht hz1 hz2 hz3
  obtain ⟨N, HN⟩ : ∃ N, Box (l.length = N) := ⟨_, ⟨rfl⟩⟩
  rw [HN.out] at HIx HT hn hcap ⊢
  go_enter Tryz.func115, Tryz.ntmps115
  go_wp2_with fail
  refine HIx.out.mono ?_
  rintro e w1 ⟨hown, hsz, hc⟩
  have HO := box hown; have HSz := box hsz
  rw [HN.out] at HO
  clear hown hsz HIx
  rcases hc with ⟨hf, rfl, hI1⟩ | ⟨hf, rfl, hI1⟩
  case inr =>
    have HF := box (filter_none hf)
    have HI1 := box hI1
    clear hf hI1
    go_wp2_with fail
    go_ret
    exact ⟨.slice ao N cap, rfl, rfl, by rw [HF.out, HN.out]; exact HO.out, by rw [← HN.out]; exact HI1.out, HSz.out⟩
  obtain ⟨k0, HK⟩ : ∃ k0, Box (l.findIdx p = k0) := ⟨_, ⟨rfl⟩⟩
  rw [HK.out] at hf hI1 ⊢
  have HS := box (DelG.start HK.out hf)
  have HI1 := box hI1
  rw [HN.out] at hf
  obtain ⟨b0, cap0, hv, hg1, hg2, hg3⟩ := ownsRow_shape HO.out (by intro h; injection h with _ h2 _; omega)
  injection hv with hv1 hv2 hv3
  subst hv1
  clear hv2 hv3 hI1
  have q0 : ((k0 : Int) == -1) = false := by simp
  go_wp2_with fail
  go_loopw [5, 6, 7] (fun t5 t6 _ wr => ∃ (i j : Nat) (ys : List EgM), t5 = .int .i64 (i : Int) ∧ t6 = .int .i64 (j : Int) ∧ i < j ∧ j ≤ N ∧ Box (DelG p l i j ys ∧ I j wr ∧ wr.ownsRow base 180 2 (.slice (some ⟨b0, 0, none⟩) N cap) N (egVals ys) ∧ w.heap.size ≤ wr.heap.size)) (fun _ t6 _ _ => N - (RowKit.intOf t6).toNat)
  case atStart => exact ⟨k0, k0 + 1, l, rfl, by go_num, by omega, by omega, ⟨HS.out, HI1.out, HO.out, HSz.out⟩⟩
  case round =>
    obtain ⟨i, j, ys, rfl, rfl, hij, hjN, HR⟩ := hrel
    have hyl := box HR.out.1.len
    by_cases hlt : j < N
    · have hjl : j < l.length := by rw [HN.out]; exact hlt
      have hy1 := egVals_at ys j (by rw [hyl.out]; exact hjl)
      have hyj : ys[j]'(by rw [hyl.out]; exact hjl) = l[j] := by
        have := HR.out.1.at hjl
        rw [List.getElem?_eq_getElem (by rw [hyl.out]; exact hjl)] at this
        exact Option.some.inj this
      rw [hyj] at hy1
      have c0 : wr.cell? ⟨b0, j * 2, none⟩ = some (.int .i64 l[j].frm) := by rw [HR.out.2.2.1.cellAt (j * 2) (by omega)]; exact hy1.1
      have c1 : wr.cell? ⟨b0, j * 2 + 1, none⟩ = some (.int .i64 l[j].to_) := by rw [HR.out.2.2.1.cellAt (j * 2 + 1) (by omega)]; exact hy1.2
      have hal := HT.out.alloc j wr (.cells #[.int .i64 l[j].frm, .int .i64 l[j].to_] 180) HR.out.2.1
      have HO1 := box (HR.out.2.2.1.alloc (.cells #[.int .i64 l[j].frm, .int .i64 l[j].to_] 180))
      have HC := box (HT.out.call j hjl _ hal (fun b hb => (HO1.out.lt b hb).2))
      have HSk := box (fun h => HR.out.1.skip hjl h)
      have HKe := box (fun h => HR.out.1.keep hjl h)
      obtain ⟨o, HOe⟩ : ∃ o, Box (l[j] = o) := ⟨_, ⟨rfl⟩⟩
      rw [HOe.out] at c0 c1 HC HSk HKe HO1
      have HX := box (Blk.new wr [.int .i64 o.frm, .int .i64 o.to_] 180)
      have hbl := (HR.out.2.2.1.lt b0 rfl).2
      clear hy1 hyj hal
      go_wp2_with fail
      have hbs := HR.out.2.2.1.lt b0 rfl
      refine HC.out.mono ?_
      rintro e w2 ⟨rfl, hi2, hs2, hb2⟩
      have HI2 := box hi2
      have HO2 := box (own_same HO1.out (fun b hb => hb2 b (HO1.out.lt b hb).1 (HO1.out.lt b hb).2))
      have HX2 : Box (Blk w2 wr.heap.size 180 [.int .i64 o.frm, .int .i64 o.to_]) := ⟨(hb2 _ (by omega) HX.out.lt).trans HX.out⟩
      have HS2 : Box (w.heap.size ≤ w2.heap.size) := ⟨by have := HR.out.2.2.2; simp at hs2; omega⟩
      clear hi2 hs2 hb2 hbl c0 c1
      cases hp : p o with
      | true =>
        have HD := box (HSk.out hp)
        go_wp2_with fail
        go_roundw
        case rel => exact ⟨i, j + 1, ys, rfl, by go_num, by omega, by omega, ⟨HD.out, HI2.out, HO2.out, HS2.out⟩⟩
        case measure => simp [RowKit.intOf]; omega
      | false =>
        have HD := box (HKe.out hp)
        have hil : i < ys.length := by rw [hyl.out, HN.out]; omega
        have hyi := egVals_at ys i hil
        have x0 := HX2.out.cell (i := 0) rfl
        have x1 := HX2.out.cell (i := 1) rfl
        have d0 : w2.cell? ⟨b0, i * 2, none⟩ = some (.int .i64 ys[i].frm) := by rw [HO2.out.cellAt (i * 2) (by omega)]; exact hyi.1
        have d1 : w2.cell? ⟨b0, i * 2 + 1, none⟩ = some (.int .i64 ys[i].to_) := by rw [HO2.out.cellAt (i * 2 + 1) (by omega)]; exact hyi.2
        have f0 := HO2.out.frozenAt (i * 2)
        have f1 := HO2.out.frozenAt (i * 2 + 1)
        have hst := ((HO2.out.stored (i * 2) (.int .i64 o.frm)).1.stored (i * 2 + 1) (.int .i64 o.to_)).1
        rw [egVals_set ys i o hil] at hst
        have HSt := box hst
        have HI3 := box (HT.out.store _ _ b0 (i * 2 + 1) (.int .i64 o.to_) (HT.out.store _ _ b0 (i * 2) (.int .i64 o.frm) HI2.out rfl) rfl)
        obtain ⟨yy, Hyy⟩ : ∃ yy, Box (ys[i] = yy) := ⟨_, ⟨rfl⟩⟩
        rw [Hyy.out] at d0 d1
        have hiN : (i : Int) < (N : Int) := by omega
        clear hyi hst
        go_wp2_with fail
        go_roundw
        case rel => exact ⟨i + 1, j + 1, ys.set i o, by go_num, by go_num, by omega, by omega, ⟨HD.out, HI3.out, HSt.out, by simpa using HS2.out⟩⟩
        case measure => simp [RowKit.intOf]; omega
    · obtain rfl : j = N := by omega
      have HDn : Box (i = (l.filter fun x => !p x).length ∧ ys.take i = l.filter fun x => !p x) := ⟨DelG.done (by rw [HN.out]; exact HR.out.1)⟩
      have hcl : ∀ ty, (Builtin.clear_ #[148] ty #[.slice (some ⟨b0, i * 2, none⟩) (j - i) (cap - i)]).run Tryz.prog wr = .ok (.tuple #[]) (wr.setCells b0 (i * 2) (Builtin.zeroCells #[.int .i64 0, .int .i64 0] (j - i)).toList) := fun ty =>
        run_clear_many wr 148 180 ty (.agg #[.int .i64 0, .int .i64 0]) Tryz.underlying148 Tryz.zeroEg (by simp [Value.cells, Value.oneCell']) (by decide) b0 (i * 2) (j - i) (cap - i)
          (fun t ht => by
            have ht2 : t < (j - i) * 2 := ht
            rw [HR.out.2.2.1.cellAt (i * 2 + t) (by omega), List.getElem?_eq_getElem (by rw [egVals_len, hyl.out, HN.out]; omega)]; rfl)
          (fun t _ => HR.out.2.2.1.frozenAt (i * 2 + t))
      obtain ⟨zs, k1, k2⟩ := setCells_ownG (Builtin.zeroCells #[.int .i64 0, .int .i64 0] (j - i)).toList (i * 2) j wr _ HR.out.2.2.1
      have HCut : Box ((wr.setCells b0 (i * 2) (Builtin.zeroCells #[.int .i64 0, .int .i64 0] (j - i)).toList).ownsRow base 180 2 (.slice (some ⟨b0, 0, none⟩) i cap) i (egVals (l.filter fun x => !p x))) := ⟨by
        have h1 := own_cutG k1 (i := i) (by omega)
        rw [k2, egVals_take, HDn.out.2] at h1
        exact h1⟩
      have HIe := box (HT.out.cells (b := b0) rfl (Builtin.zeroCells #[.int .i64 0, .int .i64 0] (j - i)).toList (i * 2) wr HR.out.2.1)
      have HSe : Box (w.heap.size ≤ (wr.setCells b0 (i * 2) (Builtin.zeroCells #[.int .i64 0, .int .i64 0] (j - i)).toList).heap.size) := ⟨by
        have h1 : ∀ (vs : List Value) (o : Nat) (W : World), (W.setCells b0 o vs).heap.size = W.heap.size := by
          intro vs
          induction vs with
          | nil => intro o W; rfl
          | cons u r ih => intro o W; rw [World.setCells, ih]; simp
        rw [h1]; exact HR.out.2.2.2⟩
      generalize wr.setCells b0 (i * 2) (Builtin.zeroCells #[.int .i64 0, .int .i64 0] (j - i)).toList = We at *
      have hiN : (i : Int) ≤ (j : Int) := by omega
      have hiC : (i : Int) ≤ (cap : Int) := by omega
      clear k1 k2
      go_wp2_with fail
      go_ret
      refine ⟨.slice (some ⟨b0, 0, none⟩) i cap, rfl, rfl, ?_, ?_, HSe.out⟩
      · rw [← HDn.out.1]; exact HCut.out
      · exact HIe.out
end
end
section
open Go.RowKit Go.Lib

/-- A row of ints in blocks from lo on. -/
def IntsIn (w : World) (lo : Nat) (ao : Option Addr) (l : List Int) : Prop :=
  l = [] ∨ ∃ b off, ao = some ⟨b, off, none⟩ ∧ lo ≤ b ∧ b < w.heap.size ∧ ∀ k (h : k < l.length), w.cell? ⟨b, off + k, none⟩ = some (.int .i64 l[k])
theorem IntsIn.at {w : World} {lo : Nat} {ao : Option Addr} {l : List Int} (h : IntsIn w lo ao l) : IntsAt w ao l := h.imp id fun ⟨b, off, h1, _, h3, h4⟩ => ⟨b, off, h1, h3, h4⟩
theorem cell_same {w w' : World} {b : Nat} (h : w'.heap[b]? = w.heap[b]?) (i : Nat) (x) : w'.cell? ⟨b, i, x⟩ = w.cell? ⟨b, i, x⟩ := by
  simp only [World.cell?, h]
theorem IntsIn.keep {w w' : World} {lo : Nat} {ao : Option Addr} {l : List Int} (h : IntsIn w lo ao l) (hk : ∀ b, lo ≤ b → b < w.heap.size → w'.heap[b]? = w.heap[b]?) (hs : w.heap.size ≤ w'.heap.size) : IntsIn w' lo ao l :=
  h.imp id fun ⟨b, off, h1, h2, h3, h4⟩ => ⟨b, off, h1, h2, by omega, fun k hl => (cell_same (hk b h2 h3) _ _).trans (h4 k hl)⟩
theorem IntsIn.own {w : World} {base n : Nat} {v : Value} {l : List Int} (h : w.ownsRow base 3 1 v n (intVals l)) : ∃ ao cap, v = .slice ao l.length cap ∧ IntsIn w base ao l := by
  obtain ⟨ao, cap, rfl, _, hat, _, _⟩ := IntsAt.own h
  refine ⟨ao, cap, rfl, hat.imp id fun ⟨b, off, h1, h2, h3⟩ => ⟨b, off, h1, ?_, h2, h3⟩⟩
  subst h1
  exact (h.lt b rfl).1
/-- The parts, in blocks from lo on. -/
structure VicM.PartsIn (w : World) (lo : Nat) (P : List (List Nat)) (pa : Option Addr) (v : Nat → Value) : Prop where
  row : ∀ i (h : i < P.length), ∃ g, pa = some ⟨g, 0, none⟩ ∧ lo ≤ g ∧ g < w.heap.size ∧ w.cell? ⟨g, i, none⟩ = some (v i) ∧ ∃ a c, v i = .slice a P[i].length c ∧ IntsIn w lo a (GrM.ints P[i])
theorem VicM.PartsIn.keep {w w' : World} {lo : Nat} {P : List (List Nat)} {pa : Option Addr} {v : Nat → Value} (h : VicM.PartsIn w lo P pa v) (hk : ∀ b, lo ≤ b → b < w.heap.size → w'.heap[b]? = w.heap[b]?) (hs : w.heap.size ≤ w'.heap.size) : VicM.PartsIn w' lo P pa v :=
  ⟨fun i hi => by
    obtain ⟨g, h1, h2, h3, h4, a, c, h5, h6⟩ := h.row i hi
    exact ⟨g, h1, h2, by omega, (cell_same (hk g h2 h3) _ _).trans h4, a, c, h5, h6.keep hk hs⟩⟩
theorem VicM.partsIn {w : World} {base : Nat} {P : List (List Nat)} {v : Nat → Value} {pv : Value} (hT : w.ownsRow base 23 1 pv P.length ((List.range P.length).map v)) (hR : ∀ i (h : i < P.length), w.ownsRow base 3 1 (v i) (P[i]).length (intVals (GrM.ints P[i]))) :
    ∃ pa pc, pv = .slice pa P.length pc ∧ VicM.PartsIn w base P pa v := by
  rcases hT.2 with ⟨h1, h2⟩ | ⟨g, cap, cur, h1, hlo, h3, _⟩
  · exact ⟨none, 0, by rw [h1, h2], ⟨fun i hi => by omega⟩⟩
  · refine ⟨some ⟨g, 0, none⟩, cap, h1, ⟨fun i hi => ⟨g, rfl, hlo, (Array.getElem?_eq_some_iff.1 h3).1, ?_, ?_⟩⟩⟩
    · have hT2 := hT
      rw [h1] at hT2
      rw [hT2.cellAt i (by omega)]
      simp [hi]
    · obtain ⟨a, c, e, hat⟩ := IntsIn.own (hR i hi)
      exact ⟨a, c, by rw [e]; simp [GrM.ints], hat⟩
theorem owns_apart {w : World} {b1 e1 s1 n1 b2 e2 s2 n2 : Nat} {v1 v2 : Value} {x1 x2 : List Value} (h1 : w.ownsRow b1 e1 s1 v1 n1 x1) (h2 : w.ownsRow b2 e2 s2 v2 n2 x2) (he : e1 ≠ e2) {b : Nat} (hb : v1.ownBlock = some b) : v2.ownBlock ≠ some b := by
  intro hb2
  rcases h1.2 with ⟨rfl, _⟩ | ⟨g, cap, cur, rfl, _, hg, _⟩
  · simp [Value.ownBlock] at hb
  · simp [Value.ownBlock] at hb
    subst hb
    rcases h2.2 with ⟨rfl, _⟩ | ⟨g2, cap2, cur2, rfl, _, hg2, _⟩
    · simp [Value.ownBlock] at hb2
    · simp [Value.ownBlock] at hb2
      subst hb2
      rw [hg] at hg2
      injection hg2 with e
      injection e with _ e
      exact he e
theorem VicM.self_any (l : List EgM) (k : Nat) : l.any (fun e => e.frm == e.to_ && e.frm == (k : Int)) = GrM.E l k k := by
  unfold GrM.E
  congr 1
  funext e
  rw [show (e.frm == e.to_) = decide (e.frm = e.to_) from rfl, show (e.frm == (k : Int)) = decide (e.frm = k) from rfl, ← Bool.decide_and]
  exact decide_eq_decide.2 (by omega)
theorem VicM.check_sub {n : Int} {l m : List EgM} (h : GrM.check n l = 0) (hs : m.Sublist l) : GrM.check n m = 0 := by
  obtain ⟨k, rfl, h1, h2, h3⟩ := GrM.check_ok h
  unfold GrM.check
  have := hs.length_le
  rw [if_neg (by omega), if_neg (by omega), if_pos]
  unfold GrM.formOk
  rw [List.all_eq_true]
  intro e he
  obtain ⟨a, b, rfl, ha, hb⟩ := h3 e (hs.subset he)
  exact decide_eq_true ⟨by show (0 : Int) ≤ a; omega, by show (a : Int) < k; omega, by show (0 : Int) ≤ b; omega, by show (b : Int) < k; omega⟩

set_option maxRecDepth 20000 in
set_option maxHeartbeats 2000000 in
theorem vic_f1 (W : World) (x : EgM) (p : List Nat) (Pb : Nat) (a : Option Addr) (c : Nat) (hp : W.cell? ⟨Pb, 0, none⟩ = some (.slice a p.length c)) (hpb : Pb < W.heap.size) (ha : IntsAt W a (GrM.ints p)) (h0 : 0 < p.length) :
    Calls Tryz.prog 113 #[.agg #[.int .i64 x.frm, .int .i64 x.to_], .pointer (some ⟨Pb, 0, none⟩)] W fun e w' => e = .returned (.bool (x.frm == x.to_ && x.frm == ((p[0] : Nat) : Int))) ∧ Below W.heap.size W w' := by
  obtain ⟨b, off, rfl, hb, hrow⟩ := ha.resolve_left (by intro h; have := congrArg List.length h; rw [GrM.ints_len, List.length_nil] at this; omega)
  have c0 := hrow 0 (by rw [GrM.ints_len]; exact h0)
  rw [show (GrM.ints p)[0]'(by rw [GrM.ints_len]; exact h0) = ((p[0] : Nat) : Int) by simp [GrM.ints], Nat.add_zero] at c0
  generalize p[0] = k at *
  generalize p.length = L at *
  obtain ⟨x, y⟩ := x
  clear hrow
  cases d0 : (x == y) with
  | false =>
    go_enter Tryz.func113, Tryz.ntmps113
    go_wp2_with fail
    go_quiet (fail)
    go_wp2_with fail
    go_ret
    exact ⟨rfl, ((Below.refl _ _).alloc (Nat.le_refl _) _).trans ⟨rfl, rfl, rfl, Nat.le_refl _, fun _ _ => rfl⟩⟩
  | true =>
    go_enter Tryz.func113, Tryz.ntmps113
    go_wp2_with fail
    go_quiet (fail)
    go_wp2_with fail
    go_ret
    exact ⟨rfl, ((Below.refl _ _).alloc (Nat.le_refl _) _).trans ⟨rfl, rfl, rfl, Nat.le_refl _, fun _ _ => rfl⟩⟩
set_option maxRecDepth 20000 in
set_option maxHeartbeats 2000000 in
theorem vic_f2 (W : World) (x : EgM) (k : Int) (Kb : Nat) (hk : W.cell? ⟨Kb, 0, none⟩ = some (.int .i64 k)) (hkb : Kb < W.heap.size) :
    Calls Tryz.prog 116 #[.agg #[.int .i64 x.frm, .int .i64 x.to_], .pointer (some ⟨Kb, 0, none⟩)] W fun e w' => e = .returned (.bool (x.frm == k || x.to_ == k)) ∧ w' = W.alloc (.cells #[.int .i64 x.frm, .int .i64 x.to_] 180) := by
  obtain ⟨x, y⟩ := x
  cases d0 : (x == k) with
  | false =>
    go_enter Tryz.func116, Tryz.ntmps116
    go_wp2_with fail
    go_ret
    exact ⟨rfl, rfl⟩
  | true =>
    go_enter Tryz.func116, Tryz.ntmps116
    go_wp2_with fail
    go_ret
    exact ⟨rfl, rfl⟩
/-- What Victims answers. -/
def VicM.Post (n : Int) (l : List EgM) (w : World) (e : Ending) (w' : World) : Prop :=
  Below w.heap.size w w' ∧ ((GrM.check n l ≠ 0 ∧ e = .returned (.tuple #[.slice none 0 0, .int .i64 (GrM.check n l)])) ∨
    (GrM.check n l = 0 ∧ ∃ (out : List Nat) (r : List Int) (v : Value), VicM.Vic n.toNat l out ∧ r.Perm (GrM.ints out) ∧ r.Pairwise (· ≤ ·) ∧ e = .returned (.tuple #[v, .int .i64 0]) ∧ w'.ownsRow w.heap.size 3 1 v r.length (intVals r)))
/-- What stands at the head of a round. -/
structure VicM.St (m : Nat) (l : List EgM) (w : World) (l' : List EgM) (out : List Nat) (v7 v8 : Value) (wr : World) : Prop where
  sub : l'.Sublist l
  vic : ∀ rest, VicM.Vic m l' rest → VicM.Vic m l (out ++ rest)
  below : Below w.heap.size w wr
  left : wr.ownsRow w.heap.size 180 2 v7 l'.length (egVals l')
  out_ : wr.ownsRow w.heap.size 3 1 v8 out.length (intVals (GrM.ints out))
  cnt : out.length + l'.length ≤ l.length

theorem own_ne {w : World} {b1 e1 s1 n1 b2 e2 s2 n2 : Nat} {v1 v2 : Value} {x1 x2 : List Value} (h1 : w.ownsRow b1 e1 s1 v1 n1 x1) (h2 : w.ownsRow b2 e2 s2 v2 n2 x2) (he : e1 ≠ e2) : v1.ownBlock = none ∨ v1.ownBlock ≠ v2.ownBlock := by
  cases hb : v1.ownBlock with
  | none => exact Or.inl rfl
  | some b => exact Or.inr fun e => owns_apart h1 h2 he hb e.symm
/-- The midst of a round: some parts have been looked at. -/
structure VicM.Mid (m : Nat) (l' : List EgM) (P : List (List Nat)) (wr W2 : World) (Kb i : Nat) (wo : Int) (wx : World) : Prop where
  below : Below Kb wr wx
  blk : Blk wx Kb 3 [.int .i64 wo]
  keep : ∀ b, Kb + 1 ≤ b → b < W2.heap.size → wx.heap[b]? = W2.heap[b]?
  size : W2.heap.size ≤ wx.heap.size
  worst : VicM.Worst m l' P i wo
section
variable {m : Nat} {l' : List EgM} {P : List (List Nat)} {wr W2 wx : World} {Kb i : Nat} {wo : Int}
theorem VicM.Mid.after (h : VicM.Mid m l' P wr W2 Kb i wo wx) {wy : World} (hb : Below wx.heap.size wx wy) : VicM.Mid m l' P wr W2 Kb i wo wy :=
  ⟨h.below.trans (hb.mono (Nat.le_of_lt h.blk.lt)), h.blk.after hb, fun b h1 h2 => (hb.block b (Nat.lt_of_lt_of_le h2 h.size)).trans (h.keep b h1 h2), Nat.le_trans h.size hb.size, h.worst⟩
theorem VicM.Mid.set (h : VicM.Mid m l' P wr W2 Kb i wo wx) {j : Nat} {u : Int} (hw : VicM.Worst m l' P j u) : VicM.Mid m l' P wr W2 Kb j u (wx.setCell ⟨Kb, 0, none⟩ (.int .i64 u)) :=
  ⟨h.below.setCell (Nat.le_refl _) _, by
    have := h.blk.set (i := 0) (v := .int .i64 u)
    simpa using this, fun b h1 h2 => (Below.heap_setCell _ _ _ _ (by show b ≠ Kb; omega)).trans (h.keep b h1 h2), by rw [World.size_setCell]; exact h.size, hw⟩
theorem VicM.Mid.step (h : VicM.Mid m l' P wr W2 Kb i wo wx) {j : Nat} (hw : VicM.Worst m l' P j wo) : VicM.Mid m l' P wr W2 Kb j wo wx := ⟨h.below, h.blk, h.keep, h.size, hw⟩
theorem VicM.Mid.drew (h : VicM.Mid m l' P wr W2 Kb i wo wx) : VicM.Mid m l' P wr W2 Kb i wo wx.drew := h.after ⟨rfl, rfl, rfl, Nat.le_refl _, fun _ _ => rfl⟩
end

set_option maxRecDepth 20000 in
set_option maxHeartbeats 16000000 in
theorem victims_any (n : Int) (l : List EgM) (ao : Option Addr) (cap : Nat) (w : World) (h : EgsAt w ao l) (hnil : ao = none → cap = 0) (hn : l.length ≤ 9000000000000) :
    Calls Tryz.prog 80 #[.int .i64 n, .slice ao l.length cap] w (VicM.Post n l w) := by
  obtain ⟨i0, hi0, hz0, hz1, hz2⟩ := info_parts Tryz.infoIntG
  have H := box h
  have HNil := box hnil
  clear h hnil
  go_enter Tryz.func80, Tryz.ntmps80
  go_wp2_with fail
  refine (graphCheck_any n l ao cap w H.out hn).mono ?_
  rintro e w1 ⟨rfl, hb1⟩
  have HB1 := box hb1
  clear hb1
  obtain ⟨c, HC⟩ : ∃ c, Box (GrM.check n l = c) := ⟨_, ⟨rfl⟩⟩
  rw [HC.out]
  cases d0 : (c == 0) with
  | false =>
    have d1 : (c != 0) = true := by simpa using d0
    have HC0 : Box (c ≠ 0) := ⟨by simpa using d0⟩
    go_wp2_with fail
    go_ret2
    exact ⟨HB1.out, Or.inl ⟨by rw [HC.out]; exact HC0.out, by rw [HC.out]; rfl⟩⟩
  | true =>
  obtain rfl : c = 0 := by simpa using d0
  obtain ⟨m, rfl, hm6, hl2, hf⟩ := GrM.check_ok HC.out
  clear hf
  obtain ⟨N, HN⟩ : ∃ N, Box (l.length = N) := ⟨_, ⟨rfl⟩⟩
  have HCl := box (clone_egs l ao cap w1 (H.out.below HB1.out (Nat.le_refl _)) HNil.out (by omega))
  rw [HN.out] at hl2 hn HCl ⊢
  go_wp2_with fail
  refine HCl.out.mono ?_
  rintro e w2 ⟨⟨vl, rfl, hown⟩, hb2⟩
  have HS : Box (VicM.St m l w l [] vl (.slice none 0 0) w2) := ⟨⟨List.Sublist.refl _, fun rest h => h, below_tr HB1.out hb2, by
    rw [HN.out]; exact ownsRow_mono hown HB1.out.size, World.ownsRow_nil _ _ _ _, by simp⟩⟩
  clear hown hb2 HCl HB1 d0
  go_wp2_with fail
  go_loopg [7, 8] N (fun f t7 t8 wr => ∃ (l' : List EgM) (out : List Nat), f = l'.length ∧ Box (VicM.St m l w l' out t7 t8 wr))
  case atStart => exact ⟨l, [], HN.out.symm, HS⟩
  case round =>
    obtain ⟨l', out, hfl, HQ⟩ := hrel
    obtain ⟨wq, hwq⟩ : ∃ x, x = wr := ⟨_, rfl⟩
    rw [← hwq] at HQ ⊢
    clear hwq
    clear HS
    obtain ⟨la, lc, hv7, _, hla, _, _⟩ := EgsAt.own HQ.out.left
    obtain ⟨oa, oc, hv8, _, _, _, _⟩ := IntsAt.own HQ.out.out_
    rw [GrM.ints_len] at hv8
    subst hv7 hv8
    have hcn := HQ.out.cnt
    have HLa := box hla
    have HPc := box (fun (wx : World) (hb : Below wq.heap.size wq wx) => parts_any (m : Int) l' la lc wx (hla.below hb (Nat.le_refl _)) (by have := HN.out; omega))
    obtain ⟨LL, HLL⟩ : ∃ x, Box (l'.length = x) := ⟨_, ⟨rfl⟩⟩
    obtain ⟨OL, HOL⟩ : ∃ x, Box (out.length = x) := ⟨_, ⟨rfl⟩⟩
    rw [HLL.out] at HPc hfl hcn ⊢
    rw [HOL.out] at hcn ⊢
    rw [HN.out] at hcn
    clear hla
    obtain ⟨Kb, HKb⟩ : ∃ x, Box (wq.heap.size = x) := ⟨_, ⟨rfl⟩⟩
    go_wp2_with fail
    refine (HPc.out _ ((Below.refl _ _).alloc (Nat.le_refl _) _)).mono ?_
    rintro e W2 ⟨hb2, hc⟩
    rcases hc with ⟨hc0, _⟩ | ⟨_, P, v, pv, rfl, hP, _, hT, hR⟩
    · exact absurd (VicM.check_sub HC.out HQ.out.sub) hc0
    obtain ⟨pa, pc, rfl, hpat⟩ := VicM.partsIn hT hR
    rw [Int.toNat_natCast] at hP
    rw [World.size_alloc, HKb.out] at hpat hb2
    have HP := box hP; have HPat := box hpat
    have HM0 : Box (VicM.Mid m l' P wq W2 Kb 0 (-1) W2) := ⟨⟨by
      rw [← HKb.out]
      exact ((Below.refl _ _).alloc (Nat.le_refl _) _).trans (hb2.mono (by rw [HKb.out]; omega)), by
      have := Blk.new wq [.int .i64 (-1)] 3
      rw [HKb.out] at this
      exact this.below hb2 (by omega), fun _ _ _ => rfl, Nat.le_refl _, VicM.Worst.start⟩⟩
    have hPl := hP.len
    obtain ⟨PL, HPL⟩ : ∃ x, Box (P.length = x) := ⟨_, ⟨rfl⟩⟩
    rw [HKb.out, HPL.out]
    rw [HPL.out] at hPl
    clear hP hT hR hpat hb2 HPc
    go_wp2_with fail
    go_loopw [31] (fun t31 wx => ∃ (i : Nat) (wo : Int), i ≤ PL ∧ t31 = .int .i64 (i : Int) ∧ Box (VicM.Mid m l' P wq W2 Kb i wo wx)) (fun t31 _ => PL - (RowKit.intOf t31).toNat)
    case atStart => exact ⟨0, -1, Nat.zero_le _, rfl, HM0⟩
    case round =>
      obtain ⟨i, wo, hi, rfl, HM⟩ := hrel
      clear HM0
      by_cases hit : i < PL
      · have hip : i < P.length := by rw [HPL.out]; exact hit
        obtain ⟨g, hpa, hlo, hgs, hcell, a, c, hv, hat⟩ := (HPat.out.keep HM.out.keep HM.out.size).row i hip
        subst hpa
        have hp0 : 0 < P[i].length := List.length_pos_iff.2 (HP.out.scc _ (List.getElem_mem hip)).1
        have HTk0 : Box (∀ p (h0 : 0 < p.length), p = P[i] → VicM.cyc l' p = true → VicM.Worst m l' P (i + 1) (max wo ((p[p.length - 1]'(by omega) : Nat) : Int))) := ⟨by rintro p h0 rfl hc; exact HM.out.worst.take HP.out hip hc h0⟩
        have HSk0 : Box (∀ p, p = P[i] → VicM.cyc l' p = false → VicM.Worst m l' P (i + 1) wo) := ⟨by rintro p rfl hc; exact HM.out.worst.skip hip hc⟩
        have hpl : P[i].length ≤ m := by
          rw [← HP.out.count]
          have e := congrArg (fun q : List (List Nat) => q.flatten.length) (List.take_append_drop i P)
          rw [List.drop_eq_getElem_cons hip] at e
          simp only [List.flatten_append, List.length_append, List.flatten_cons] at e
          omega
        have hcyc : VicM.cyc l' P[i] = (decide (1 < P[i].length) || l'.any (fun e => e.frm == e.to_ && e.frm == ((P[i][0] : Nat) : Int))) := by
          unfold VicM.cyc
          rw [VicM.self_any, getElem!_pos P[i] 0 hp0]
        have hcyc2 : ∀ p (h0 : 0 < p.length), p = P[i] → VicM.cyc l' p = (decide (1 < p.length) || l'.any (fun e => e.frm == e.to_ && e.frm == ((p[0] : Nat) : Int))) := by rintro p h0 rfl; exact hcyc
        clear hcyc
        obtain ⟨p, hpp⟩ : ∃ p, P[i] = p := ⟨_, rfl⟩
        rw [hpp] at hv hat hp0 hpl
        have hcyc := hcyc2 p hp0 hpp.symm
        have HTk := box (HTk0.out p hp0 hpp.symm)
        have HSk := box (HSk0.out p hpp.symm)
        clear hpp hcyc2 HTk0 HSk0
        rw [hv] at hcell
        have hat2 := hat.at
        obtain ⟨b, off, hab, hlb, hbs, hrow⟩ := hat.resolve_left (by intro h; have := congrArg List.length h; rw [GrM.ints_len, List.length_nil] at this; omega)
        subst hab
        obtain ⟨q, hq⟩ : ∃ q, p.length = q + 1 := ⟨p.length - 1, by omega⟩
        have c0 := hrow q (by rw [GrM.ints_len]; omega)
        rw [show (GrM.ints p)[q]'(by rw [GrM.ints_len]; omega) = ((p[p.length - 1]'(by omega) : Nat) : Int) by simp [GrM.ints, hq]] at c0
        generalize hla0 : p[p.length - 1]'(by omega) = la0 at *
        have hKs := HM.out.blk.lt
        have hlw : EgsAt wr la l' := HLa.out.below HM.out.below (by rw [HKb.out]; exact Nat.le_refl _)
        have HCf := box (containsFunc_egs l' la lc 113 #[.pointer (some ⟨wr.heap.size, 0, none⟩)] (fun e => e.frm == e.to_ && e.frm == ((p[0] : Nat) : Int)) (wr.alloc (.cells #[.slice (some ⟨b, off, none⟩) p.length c] 23)) (hlw.below ((Below.refl _ _).alloc (Nat.le_refl _) _) (Nat.le_refl _)) (by have := HLL.out; omega) (fun W hW o _ =>
          vic_f1 W o p wr.heap.size (some ⟨b, off, none⟩) c (((Blk.new wr [.slice (some ⟨b, off, none⟩) p.length c] 23).after hW).cell rfl) ((Blk.new wr [.slice (some ⟨b, off, none⟩) p.length c] 23).after hW).lt
            ((hat2.below ((Below.refl _ _).alloc (Nat.le_refl _) _) (Nat.le_refl _)).below hW (Nat.le_refl _)) hp0) (enters_fn Tryz.func113 (by kernel_rfl) rfl))
        rw [HLL.out] at HCf
        obtain ⟨Lp, HLp⟩ : ∃ x, Box (p.length = x) := ⟨_, ⟨rfl⟩⟩
        obtain ⟨S, HSx⟩ : ∃ x, Box (l'.any (fun e => e.frm == e.to_ && e.frm == ((p[0] : Nat) : Int)) = x) := ⟨_, ⟨rfl⟩⟩
        rw [HSx.out] at HCf hcyc
        rw [HLp.out] at HCf hcyc hcell hpl hq
        rw [hcyc] at HTk HSk
        have HQx : Box (IntsAt wr (some ⟨b, off, none⟩) (GrM.ints p)) := ⟨hat2⟩
        obtain ⟨Pb, HPb⟩ : ∃ x, Box (wr.heap.size = x) := ⟨_, ⟨rfl⟩⟩
        obtain ⟨W3, HW3⟩ : ∃ x, Box (wr.alloc (.cells #[.slice (some ⟨b, off, none⟩) Lp c] 23) = x) := ⟨_, ⟨rfl⟩⟩
        have HS3 : Box (VicM.Mid m l' P wq W2 Kb i wo W3 ∧ Blk W3 Pb 23 [.slice (some ⟨b, off, none⟩) Lp c] ∧ W3.cell? ⟨b, off + q, none⟩ = some (.int .i64 (la0 : Int)) ∧ b < W3.heap.size) := ⟨by
          have hbl : Below wr.heap.size wr W3 := by rw [← HW3.out]; exact (Below.refl _ _).alloc (Nat.le_refl _) _
          refine ⟨HM.out.after hbl, ?_, (hbl.cell (p := ⟨b, off + q, none⟩) hbs).trans c0, Nat.lt_of_lt_of_le hbs hbl.size⟩
          rw [← HW3.out, ← HPb.out]
          exact Blk.new _ _ _⟩
        have hne1 : Kb ≠ Pb := by have := HPb.out; omega
        have hne2 : Kb ≠ b := by omega
        have hne3 : Pb ≠ b := by have := HPb.out; omega
        rw [HW3.out, HPb.out] at HCf
        clear hrow hat hat2 hlw c0 hv hcyc hKs hbs
        subst hq
        go_wp2_with fail
        rw [HW3.out, HPb.out]
        refine HCf.out.mono ?_
        rintro e W4 ⟨rfl, hb4⟩
        have HM4 := box (HS3.out.1.after hb4)
        have k0 := HM4.out.blk.cell (i := 0) rfl
        have kz := HM4.out.blk.frozen 0
        have p0 := (HS3.out.2.1.after hb4).cell (i := 0) rfl
        have c0 : W4.cell? ⟨b, off + q, none⟩ = some (.int .i64 (la0 : Int)) := (hb4.cell (p := ⟨b, off + q, none⟩) HS3.out.2.2.2).trans HS3.out.2.2.1
        have hne1' := hne1.symm
        have hne2' := hne2.symm
        have hne3' := hne3.symm
        clear hb4 HS3 HW3 HCf HQx
        rw [show decide (1 < q + 1) = decide ((1 : Int) < (q : Int) + 1) from decide_eq_decide.2 (by omega)] at HSk HTk
        cases d1 : decide ((1 : Int) < (q : Int) + 1) with
        | true =>
          have HNx := box (HM4.out.set (HTk.out (by rw [d1]; rfl)))
          have hw1 : IntKind.i64.wrap ((q : Int) + 1 - 1) = (q : Int) := (IntWalk.i64_in _ (by omega)).trans (by omega)
          have hw2 : IntKind.i64.wrap (q : Int) = (q : Int) := IntWalk.i64_in _ (by omega)
          go_wp2_with fail
          go_region
          all_goals
            go_wp2_with fail
            go_roundw
            case rel => exact ⟨i + 1, _, by omega, by go_num, ⟨HNx.out.drew⟩⟩
            case measure => simp [RowKit.intOf]; omega
        | false =>
          cases S with
          | true =>
            have HNx := box (HM4.out.set (HTk.out (by rw [d1]; rfl)))
            have hw1 : IntKind.i64.wrap ((q : Int) + 1 - 1) = (q : Int) := (IntWalk.i64_in _ (by omega)).trans (by omega)
            have hw2 : IntKind.i64.wrap (q : Int) = (q : Int) := IntWalk.i64_in _ (by omega)
            go_wp2_with fail
            go_region
            all_goals
              go_wp2_with fail
              go_roundw
              case rel => exact ⟨i + 1, _, by omega, by go_num, ⟨HNx.out.drew⟩⟩
              case measure => simp [RowKit.intOf]; omega
          | false =>
            have HNx := box (HM4.out.step (HSk.out (by rw [d1]; rfl)))
            go_wp2_with fail
            go_roundw
            case rel => exact ⟨i + 1, wo, by omega, by go_num, HNx⟩
            case measure => simp [RowKit.intOf]; omega
      · obtain rfl : i = PL := by omega
        have HWo : Box (VicM.Worst m l' P P.length wo) := ⟨by rw [HPL.out]; exact HM.out.worst⟩
        have k0 := HM.out.blk.cell (i := 0) rfl
        cases d0 : decide (wo < 0) with
        | true =>
          have HVic : Box (VicM.Vic m l out) := ⟨by
            have := HQ.out.vic [] (.done fun k hk => HWo.out.none HP.out (of_decide_eq_true d0) k hk.lt hk)
            rwa [List.append_nil] at this⟩
          have hown : wr.ownsRow w.heap.size 3 1 (.slice oa OL oc) OL (intVals (GrM.ints out)) := by
            have h1 := HQ.out.out_
            rw [HOL.out] at h1
            exact ownsRow_below h1 (by rw [HKb.out]; exact HM.out.below)
          have hwr : Below w.heap.size w wr := HQ.out.below.trans (HM.out.below.mono (by rw [← HKb.out]; exact HQ.out.below.size))
          clear HLa HPat
          rcases hown.2 with ⟨h1, h2⟩ | ⟨g, vc, cur, h1, _⟩
          · injection h1 with h1 _ h3
            subst h1 h3
            obtain rfl : OL = 0 := h2
            have h0 : out = [] := List.eq_nil_of_length_eq_zero HOL.out
            have HB := box hwr
            clear hown hwr
            go_wp2_with fail
            refine (Tryz.slices_Sort_int_none none 0 wr).mono ?_
            rintro e w2 ⟨rfl, rfl⟩
            go_wp2_with fail
            go_ret2
            refine ⟨HB.out, Or.inr ⟨HC.out, out, [], .slice none 0 0, by rw [Int.toNat_natCast]; exact HVic.out, by rw [h0]; exact List.Perm.refl _, List.Pairwise.nil, rfl, World.ownsRow_nil _ _ _ _⟩⟩
          · injection h1 with h1 _ h3
            subst h1 h3
            have hol : OL ≤ N := by omega
            have hso := sort_ints (GrM.ints out) g oc w.heap.size 3 wr (by rw [GrM.ints_len, HOL.out]; exact hown) (by rw [GrM.ints_len, HOL.out]; omega)
            rw [GrM.ints_len, HOL.out] at hso
            have HSo := box hso
            have HB := box hwr
            have HLt := box (hown.lt g rfl).1
            clear hown hwr hso
            go_wp2_with fail
            refine HSo.out.mono ?_
            rintro e w2 ⟨rfl, ho2, hg2⟩
            have HO2 := box ho2; have HG2 := box hg2
            clear ho2 hg2
            go_wp2_with fail
            go_ret2
            have hml : ((GrM.ints out).mergeSort fun x y => decide (x ≤ y)).length = OL := by rw [List.length_mergeSort, GrM.ints_len, HOL.out]
            refine ⟨HB.out.grown HG2.out HB.out.size (fun b hb => by injection hb with hb; subst hb; exact HLt.out), Or.inr ⟨HC.out, out, (GrM.ints out).mergeSort fun x y => decide (x ≤ y), .slice (some ⟨g, 0, none⟩) OL oc, by rw [Int.toNat_natCast]; exact HVic.out, List.mergeSort_perm _ _, IntSort.sorted _, rfl, ?_⟩⟩
            rw [hml]; exact HO2.out
        | false =>
          obtain ⟨k, rfl, hk, hkp, hkm⟩ := HWo.out.some HP.out (of_decide_eq_false d0)
          have hwr : Below w.heap.size w wr := HQ.out.below.trans (HM.out.below.mono (by rw [← HKb.out]; exact HQ.out.below.size))
          have hsw := hwr.size
          have hown : wr.ownsRow w.heap.size 3 1 (.slice oa OL oc) OL (intVals (GrM.ints out)) := by
            have h1 := HQ.out.out_
            rw [HOL.out] at h1
            exact ownsRow_below h1 (by rw [HKb.out]; exact HM.out.below)
          have hleft : wr.ownsRow w.heap.size 180 2 (.slice la LL lc) l'.length (egVals l') := by
            have h1 := HQ.out.left
            rw [HLL.out] at h1 ⊢
            exact ownsRow_below h1 (by rw [HKb.out]; exact HM.out.below)
          have hneK : (Value.slice oa OL oc).ownBlock ≠ some Kb := fun e => by
            have h1 := HQ.out.out_
            rw [HOL.out] at h1
            have := (h1.lt Kb e).2
            have := HKb.out
            omega
          have hneL : ∀ b, (Value.slice la LL lc).ownBlock = some b → w.heap.size ≤ b ∧ b ≠ Kb := fun b e => by
            have h1 := HQ.out.left
            rw [HLL.out] at h1
            have := h1.lt b e
            have := HKb.out
            omega
          have HNe := box hneK; have HNl := box hneL; have HLe := box hleft; have HOw := box hown; have HKp := box hkp; have HKm := box hkm
          have hown1 := hown.alloc (.cells #[.int .i64 (k : Int)] 3)
          have hol : OL ≤ N := by omega
          clear hneK hneL hleft hown hkp hkm HLa HPat HP HWo
          go_wp2_with (at_builtin; go_must (refine wpList_append_lies _ rfl _ _ 23 rfl w.heap.size 3 i0 _ 1 8 Tryz.underlying23 hi0 hz0 hz1 hz2 rfl (by decide) _ _ _ rfl hown1 ⟨wr.heap.size, 0, none⟩ 1 1 [.int .i64 (k : Int)] rfl rfl (cells_new wr [.int .i64 (k : Int)] 3) (by simp [Value.oneCell']) (by decide) (by unfold maxLen; omega) (by omega) (by simp; omega) (wr.heap.size + 1) (by simp) ?_))
          intro gg gcap w7 hown7 hgrow7 hat7 hlt7
          have HB7 : Box (Below w.heap.size w w7) := ⟨(hwr.alloc hsw _).grown hgrow7 (by simp; omega) (fun b hb => (HOw.out.lt b hb).1)⟩
          have HK7 : Box (Blk w7 Kb 3 [.int .i64 (k : Int)]) := ⟨(HM.out.blk.alloc _).grown hgrow7 HNe.out⟩
          have HL7 : Box (w7.ownsRow w.heap.size 180 2 (.slice la LL lc) l'.length (egVals l')) := ⟨(HLe.out.alloc _).kept hgrow7 (own_ne HLe.out HOw.out (by decide))⟩
          have HO7 : Box (w7.ownsRow w.heap.size 3 1 (.slice (some ⟨gg, 0, none⟩) (OL + 1) gcap) (OL + 1) (intVals (GrM.ints (out ++ [k])))) := ⟨by
            have e1 : intVals (GrM.ints (out ++ [k])) = intVals (GrM.ints out) ++ [.int .i64 (k : Int)] := by unfold GrM.ints intVals; simp
            rw [e1]
            exact hown7⟩
          have HDl := box (deleteFunc_egsT l' (.slice la LL lc) w.heap.size 116 #[.pointer (some ⟨Kb, 0, none⟩)] (fun x => x.frm == (k : Int) || x.to_ == (k : Int))
            (fun _ W => Below w.heap.size w W ∧ Blk W Kb 3 [.int .i64 (k : Int)] ∧ W.ownsRow w.heap.size 3 1 (.slice (some ⟨gg, 0, none⟩) (OL + 1) gcap) (OL + 1) (intVals (GrM.ints (out ++ [k])))) w7 HL7.out (by have := HLL.out; omega) ⟨HB7.out, HK7.out, HO7.out⟩
            { call := fun j hj W hI _ => (vic_f2 W l'[j] k Kb (hI.2.1.cell rfl) hI.2.1.lt).mono fun e w' ⟨h1, h2⟩ => ⟨h1, by
                rw [h2]
                exact ⟨hI.1.alloc hI.1.size _, hI.2.1.alloc _, hI.2.2.alloc _⟩, by rw [h2]; simp, fun b _ hb => by rw [h2]; exact Below.heap_alloc _ _ _ hb⟩
              alloc := fun j W o hI => ⟨hI.1.alloc hI.1.size _, hI.2.1.alloc _, hI.2.2.alloc _⟩
              store := fun j W b i u hI hb => ⟨hI.1.setCell (HNl.out b hb).1 _, hI.2.1.other (fun e => (HNl.out b hb).2 e.symm) _, ownsRow_setCell_other hI.2.2 (fun e => owns_apart HL7.out HO7.out (by decide) hb e) _⟩ } (enters_fn Tryz.func116 (by kernel_rfl) rfl))
          have k7 := HK7.out.cell (i := 0) rfl
          clear hown7 hgrow7 hat7 hlt7 hown1 HB7 HK7 HL7 HO7 k0
          go_wp2_with fail
          refine HDl.out.mono ?_
          rintro e W8 ⟨v', rfl, _, hown8, ⟨hb8, _, ho8⟩, _⟩
          have hdl := VicM.del_lt HKp.out
          have HNx : Box (VicM.St m l w (VicM.del (k : Int) l') (out ++ [k]) v' (.slice (some ⟨gg, 0, none⟩) (OL + 1) gcap) W8) := ⟨⟨List.filter_sublist.trans HQ.out.sub, fun rest h => by
            have := HQ.out.vic (k :: rest) (.step HKp.out HKm.out h)
            rwa [List.append_assoc], hb8, hown8, by
            rw [List.length_append, List.length_singleton, HOL.out]; exact ho8, by
            have := HQ.out.cnt
            rw [List.length_append, List.length_singleton]; omega⟩⟩
          have hdl2 : (VicM.del (k : Int) l').length < LL := by rw [← HLL.out]; exact hdl
          clear hown8 hb8 ho8 HDl hdl
          go_wp2_with fail
          go_roundg (VicM.del (k : Int) l').length
          case measure => omega
          case rel => exact ⟨VicM.del (k : Int) l', out ++ [k], rfl, HNx⟩
end
end Go.Proofs.YtnnkejolfhhmlaaGreat
