/- redo.Check: what it computes. -/
import Derived.Test.YtfmgncfikaefhaaRedoM
import Derived.Test.YtfmgncfikaefhaaHeap
import Derived.Deep.QuietTactic
import Derived.BigQuiet
import Derived.Deep.DeepMust
import Derived.Maps.OwnOps
import Derived.Maps.OwnSet
import Derived.Maps.RangeWalk
namespace Go.Proofs.Ytfmgncfikaefhaa
open Go.RowKit Go.Lib Go.Maps

def RecM.vals (r : RecM) : List Value := [.int .i64 r.kind, .int .i64 r.tx, .int .i64 r.item, .int .i64 r.old, .int .i64 r.new]
/-- Records l stand where a slice of so many begins. -/
def RecsAt (w : World) (ao : Option Addr) (l : List RecM) : Prop :=
  l = [] ∨ ∃ b off, ao = some ⟨b, off, none⟩ ∧ b < w.heap.size ∧ ∀ k (h : k < l.length), w.cell? ⟨b, off + k * 5, none⟩ = some (.int .i64 l[k].kind) ∧ w.cell? ⟨b, off + k * 5 + 1, none⟩ = some (.int .i64 l[k].tx) ∧
    w.cell? ⟨b, off + k * 5 + 2, none⟩ = some (.int .i64 l[k].item) ∧ w.cell? ⟨b, off + k * 5 + 3, none⟩ = some (.int .i64 l[k].old) ∧ w.cell? ⟨b, off + k * 5 + 4, none⟩ = some (.int .i64 l[k].new)
theorem RecsAt.below {B : Nat} {w w' : World} {ao : Option Addr} {l : List RecM} (h : RecsAt w ao l) (hb : Below B w w') (hB : w.heap.size ≤ B) : RecsAt w' ao l := by
  rcases h with h | ⟨b, off, h1, h2, h3⟩
  · exact Or.inl h
  · refine Or.inr ⟨b, off, h1, Nat.lt_of_lt_of_le h2 hb.size, fun k hk => ?_⟩
    have hlt : b < B := by omega
    obtain ⟨a0, a1, a2, a3, a4⟩ := h3 k hk
    exact ⟨(hb.cell (p := ⟨b, off + k * 5, none⟩) hlt).trans a0, (hb.cell (p := ⟨b, off + k * 5 + 1, none⟩) hlt).trans a1, (hb.cell (p := ⟨b, off + k * 5 + 2, none⟩) hlt).trans a2,
      (hb.cell (p := ⟨b, off + k * 5 + 3, none⟩) hlt).trans a3, (hb.cell (p := ⟨b, off + k * 5 + 4, none⟩) hlt).trans a4⟩

theorem RedoM.law : Keyed Try.prog 3 := int_keyed Try.underlying3
theorem RedoM.zeroI (w : World) : (zeroValue 3).run Try.prog w = .ok (.int .i64 0) w := by kernel_rfl
/-- A map that reads as f, where what is not there reads as 0. -/
def RedoM.Rep (D : DataW Unit) (f : Int → Int) : Prop := IsMap D ∧ ∀ k, D.atKey (.int .i64 k) (.lit (.int .i64 0)) = .lit (.int .i64 (f k))
theorem RedoM.key (t : Int) : WideAt.IsKeyLit (.int .i64 t) := by simp [WideAt.IsKeyLit]
theorem RedoM.Rep.put {D : DataW Unit} {f : Int → Int} (h : RedoM.Rep D f) (t c : Int) : RedoM.Rep (D.put (.int .i64 t) (.lit (.int .i64 c))) (RedoM.upI f t c) := by
  refine ⟨h.1.put _ _, fun k => ?_⟩
  by_cases e : k = t
  · subst e; rw [atKey_put_same h.1 (RedoM.key k), RedoM.upI_same]
  · rw [atKey_put_other (fun h => e (by injection h)), RedoM.upI_other _ _ e]; exact h.2 k
/-- While the entries that hold x are struck: those still to come stand. -/
def RedoM.cutF (f : Int → Int) (x : Int) (left : Lit → Bool) : Int → Int := fun k => if left (.int .i64 k) = true then f k else if f k = x then 0 else f k
theorem RedoM.cut_start {D : DataW Unit} {f : Int → Int} {x : Int} (h : RedoM.Rep D f) : RedoM.Rep D (RedoM.cutF f x (Maps.has D)) := by
  refine ⟨h.1, fun k => ?_⟩
  unfold RedoM.cutF
  split
  · exact h.2 k
  · rename_i hk
    have hk' : Maps.has D (.int .i64 k) = false := by simpa using hk
    have h0 := atKey_of_not_has hk' (DataW.lit (.int .i64 0))
    have h1 := h.2 k
    rw [h0] at h1
    have h2 : f k = 0 := by
      injection h1 with h1
      injection h1 with _ h1
      exact h1.symm
    rw [h0, h2]
    split <;> rfl
theorem RedoM.cut_end {D : DataW Unit} {f : Int → Int} {x : Int} {left : Lit → Bool} (h : RedoM.Rep D (RedoM.cutF f x left)) (hl : ∀ k, left k = false) : RedoM.Rep D (fun k => if f k = x then 0 else f k) := by
  refine ⟨h.1, fun k => ?_⟩
  rw [h.2 k]
  unfold RedoM.cutF
  rw [hl, if_neg (by simp)]
theorem RedoM.same_int {a b : Int} : (Lit.int .i64 a).sameKey (.int .i64 b) = decide (a = b) := by
  by_cases e : a = b
  · subst e; rw [WideAt.sameKey_self (RedoM.key a)]; simp
  · rw [sameKey_ne (fun h => e (by injection h))]; simp [e]
theorem RedoM.cut_val {D : DataW Unit} {f : Int → Int} {x y c : Int} {left : Lit → Bool} (h : RedoM.Rep D (RedoM.cutF f x left)) (hl : left (.int .i64 y) = true) (hat : ∀ zd, D.atKey (.int .i64 y) zd = .lit (.int .i64 c)) : f y = c := by
  have h1 := h.2 y
  rw [hat] at h1
  unfold RedoM.cutF at h1
  rw [if_pos hl] at h1
  injection h1 with h1
  injection h1 with _ h1
  exact h1.symm
theorem RedoM.cut_del {D : DataW Unit} {f : Int → Int} {x y : Int} {left : Lit → Bool} (h : RedoM.Rep D (RedoM.cutF f x left)) (hv : f y = x) : RedoM.Rep (D.del (.int .i64 y)) (RedoM.cutF f x (fun z => left z && !z.sameKey (.int .i64 y))) := by
  refine ⟨h.1.del _, fun k => ?_⟩
  by_cases e : k = y
  · subst e
    rw [atKey_del_same]
    unfold RedoM.cutF
    simp only [RedoM.same_int, decide_true, Bool.not_true, Bool.and_false]
    rw [if_neg (by simp), if_pos hv]
  · rw [atKey_del_other (fun h => e (by injection h)), h.2 k]
    unfold RedoM.cutF
    simp only [RedoM.same_int, e, decide_false, Bool.not_false, Bool.and_true]
theorem RedoM.cut_stay {D : DataW Unit} {f : Int → Int} {x y : Int} {left : Lit → Bool} (h : RedoM.Rep D (RedoM.cutF f x left)) (hl : left (.int .i64 y) = true) (hv : f y ≠ x) : RedoM.Rep D (RedoM.cutF f x (fun z => left z && !z.sameKey (.int .i64 y))) := by
  refine ⟨h.1, fun k => ?_⟩
  rw [h.2 k]
  unfold RedoM.cutF
  simp only [RedoM.same_int]
  by_cases e : k = y
  · subst e
    simp [hl, hv]
  · simp only [e, decide_false, Bool.not_false, Bool.and_true]
theorem RedoM.look {w : World} {b n : Nat} {D : DataW Unit} {t : Int} {f : Int → Int} (h : w.ownsMap Try.prog 3 (plainElem (H := Unit) Try.prog 3) b n D) (hkey : keyOf Try.prog 3 (.int .i64 t) = some (.int .i64 t)) (hr : RedoM.Rep D f) :
    (Instr.lookup 96 (.map (some b)) (.int .i64 t) false).run Try.prog w = .ok (.int .i64 (f t)) w := by
  obtain ⟨c, hrun, hc, _⟩ := h.lookup_int RedoM.law Try.underlying96 Try.underlying3 (RedoM.zeroI _) hkey
  rw [hr.2 t] at hc
  have hc2 : f t = c := by simpa using hc
  rw [hc2]; exact hrun

theorem RedoM.made {w : World} {b : Nat} (h : w.heap.size = b) : (w.alloc (.map #[] 0)).ownsMap Try.prog 3 (plainElem (H := Unit) Try.prog 3) b 0 (.map []) := h ▸ World.ownsMap_made _ _ _ _
theorem Blk.ne_map {w : World} {b t b' n : Nat} {C : List Value} {k : TypeId} {R : Value → Option (DataW Unit × List MemPlace)} {D : DataW Unit} (h : Blk w b t C) (h' : w.ownsMap Try.prog k R b' n D) : b' ≠ b := by
  rintro rfl
  obtain ⟨es, clock, hb, _⟩ := h'
  unfold Blk at h
  rw [h] at hb
  cases hb
/-- Check's state in memory. -/
structure RedoCW (w : World) (Bo Bm Bv k : Nat) (s : RedoM.St) (wr : World) : Prop where
  over : Blk wr Bo 90 (Tab 12 (fun i => .bool (s.over (i : Int))))
  value : Blk wr Bv 23 (Tab 20 (fun i => .int .i64 (s.value (i : Int))))
  owner : ∃ D n, n ≤ k ∧ wr.ownsMap Try.prog 3 (plainElem (H := Unit) Try.prog 3) Bm n D ∧ RedoM.Rep D s.owner
  below : Below w.heap.size w wr

theorem RedoCW.alloc {w wr : World} {Bo Bm Bv k : Nat} {s : RedoM.St} (h : RedoCW w Bo Bm Bv k s wr) (o : Obj) : RedoCW w Bo Bm Bv k s (wr.alloc o) := by
  obtain ⟨D, n, h1, h2, h3⟩ := h.owner
  exact ⟨h.over.alloc o, h.value.alloc o, ⟨D, n, h1, h2.alloc o, h3⟩, h.below.alloc h.below.size o⟩
theorem RedoCW.drewN {w wr : World} {Bo Bm Bv k : Nat} {s : RedoM.St} (h : RedoCW w Bo Bm Bv k s wr) (n : Nat) : RedoCW w Bo Bm Bv k s (wr.drewN n) := by
  obtain ⟨D, m, h1, h2, h3⟩ := h.owner
  exact ⟨h.over, h.value, ⟨D, m, h1, h2, h3⟩, h.below.trans ⟨rfl, rfl, rfl, Nat.le_refl _, fun _ _ => rfl⟩⟩
theorem RedoM.err_over {s : RedoM.St} {r : RecM} (h : ¬ (r.tx < 0 ∨ 12 ≤ r.tx ∨ r.item < 0 ∨ 20 ≤ r.item)) (ho : s.over r.tx = true) : RedoM.err s r = 4 := by unfold RedoM.err; rw [if_neg h, if_pos ho]
theorem RedoM.err_one {s : RedoM.St} {r : RecM} (h : ¬ (r.tx < 0 ∨ 12 ≤ r.tx ∨ r.item < 0 ∨ 20 ≤ r.item)) (ho : s.over r.tx = false) (hk : r.kind = 1) : RedoM.err s r = if (s.owner r.item ≠ 0 ∧ s.owner r.item ≠ r.tx + 1) ∨ r.old ≠ s.value r.item then 4 else 0 := by
  unfold RedoM.err; rw [if_neg h, ho, if_neg (by simp), if_pos hk]
theorem RedoM.err_two {s : RedoM.St} {r : RecM} (h : ¬ (r.tx < 0 ∨ 12 ≤ r.tx ∨ r.item < 0 ∨ 20 ≤ r.item)) (ho : s.over r.tx = false) (hk1 : r.kind ≠ 1) (hk : r.kind = 2 ∨ r.kind = 3) : RedoM.err s r = if r.item ≠ 0 ∨ r.old ≠ 0 ∨ r.new ≠ 0 then 4 else 0 := by
  unfold RedoM.err; rw [if_neg h, ho, if_neg (by simp), if_neg hk1, if_pos hk]
theorem RedoM.err_no {s : RedoM.St} {r : RecM} (h : ¬ (r.tx < 0 ∨ 12 ≤ r.tx ∨ r.item < 0 ∨ 20 ≤ r.item)) (ho : s.over r.tx = false) (hk1 : r.kind ≠ 1) (hk : ¬ (r.kind = 2 ∨ r.kind = 3)) : RedoM.err s r = 4 := by
  unfold RedoM.err; rw [if_neg h, ho, if_neg (by simp), if_neg hk1, if_neg hk]
theorem RedoM.err_range {s : RedoM.St} {r : RecM} (h : r.tx < 0 ∨ 12 ≤ r.tx ∨ r.item < 0 ∨ 20 ≤ r.item) : RedoM.err s r = 1 := by unfold RedoM.err; rw [if_pos h]

set_option maxRecDepth 20000 in
set_option maxHeartbeats 8000000 in
theorem redoCheck_main (l : List RecM) (ao : Option Addr) (cap : Nat) (w : World) (h : RecsAt w ao l) (hn : l.length ≤ 400) :
    Calls Try.prog 42 #[.slice ao l.length cap] w fun e w' => e = .returned (.int .i64 (RedoM.go RedoM.St.init l)) ∧ Below w.heap.size w w' := by
  have H := box h
  clear h
  obtain ⟨N, HN⟩ : ∃ N, Box (l.length = N) := ⟨_, ⟨rfl⟩⟩
  rw [HN.out] at hn ⊢
  have d0 : decide ((400 : Int) < (N : Int)) = false := by simp; omega
  have hmm := @run_makeMap Try.prog
  go_enter Try.func42, Try.ntmps42
  go_wp2_with fail
  refine name_world (fun W => RedoCW w w.heap.size (w.heap.size + 1) (w.heap.size + 2) 0 RedoM.St.init W) ⟨(Blk.new w (Tab 12 (fun _ => .bool false)) 90).alloc _ |>.alloc _, Blk.new' (by simp) (Tab 20 (fun _ => .int .i64 0)) 23,
    ⟨_, 0, Nat.le_refl _, (RedoM.made (by simp)).alloc _, ⟨isMap_empty, fun k => rfl⟩⟩, (((Below.refl _ _).alloc (Nat.le_refl _) _).alloc (by simp) _).alloc (by simp; omega) _⟩ ?_
  rintro W hW
  obtain ⟨Bo, HBo⟩ : ∃ x, Box (w.heap.size = x) := ⟨_, ⟨rfl⟩⟩
  obtain ⟨Bm, HBm⟩ : ∃ x, Box (w.heap.size + 1 = x) := ⟨_, ⟨rfl⟩⟩
  obtain ⟨Bv, HBv⟩ : ∃ x, Box (w.heap.size + 2 = x) := ⟨_, ⟨rfl⟩⟩
  rw [HBv.out, HBm.out] at hW ⊢
  have hW : RedoCW w Bo Bm Bv 0 RedoM.St.init W := by rw [← HBo.out]; exact hW
  rw [HBo.out]
  have HW := box hW
  clear hW
  go_loopw [17] (fun t17 wr => ∃ k : Nat, k ≤ N ∧ t17 = .int .i64 (k : Int) ∧ Box (RedoCW w Bo Bm Bv k (RedoM.run RedoM.St.init (l.take k)) wr) ∧ Box (RedoM.go RedoM.St.init l = RedoM.go (RedoM.run RedoM.St.init (l.take k)) (l.drop k))) (fun t17 _ => N - (intOf t17).toNat)
  case atStart => exact ⟨0, Nat.zero_le _, rfl, HW, ⟨rfl⟩⟩
  case round =>
    obtain ⟨k, hk, rfl, HR, HG⟩ := hrel
    by_cases hlt : k < N
    case neg =>
      have hkn : k = N := by omega
      subst hkn
      have HF : Box (RedoM.go RedoM.St.init l = 0) := ⟨by rw [HG.out, List.drop_of_length_le (by have := HN.out; omega)]; rfl⟩
      go_wp2_with fail
      go_ret
      exact ⟨by rw [HF.out]; rfl, HR.out.below⟩
    have hkl : k < l.length := by have := HN.out; omega
    obtain ⟨s, HS⟩ : ∃ s, Box (RedoM.run RedoM.St.init (l.take k) = s) := ⟨_, ⟨rfl⟩⟩
    have HTk : Box (RedoM.run RedoM.St.init (l.take (k + 1)) = RedoM.next s l[k]) := ⟨by
      rw [List.take_succ_eq_append_getElem hkl, RedoM.run_append, HS.out]; rfl⟩
    rw [HS.out] at HR HG
    have HGo : Box (RedoM.go RedoM.St.init l = if RedoM.err s l[k] ≠ 0 then RedoM.err s l[k] else RedoM.go (RedoM.next s l[k]) (l.drop (k + 1))) := ⟨by
      rw [HG.out, List.drop_eq_getElem_cons hkl, RedoM.go]⟩
    obtain ⟨b, off, rfl, hb, hrow⟩ := (H.out.below HR.out.below (Nat.le_refl _)).resolve_left (by intro h; rw [h] at hkl; simp at hkl)
    obtain ⟨c0, c1, c2, c3, c4⟩ := hrow k hkl
    generalize l[k] = r at *
    obtain ⟨kd, tx, it, od, nw⟩ := r
    dsimp only at c0 c1 c2 c3 c4
    clear hrow HG
    go_upto_region 9 with (fail)
    refine name_world (fun X => RedoCW w Bo Bm Bv k s X ∧ Blk X wr.heap.size 25 (RecM.vals ⟨kd, tx, it, od, nw⟩)) ⟨HR.out.alloc _, Blk.new _ _ _⟩ ?_
    rintro X ⟨hX, hr⟩
    obtain ⟨Br, HBr⟩ : ∃ x, Box (wr.heap.size = x) := ⟨_, ⟨rfl⟩⟩
    rw [HBr.out] at hr ⊢
    have HX := box hX; have HRb := box hr
    have y0 := hr.cell (i := 0) rfl
    have y1 := hr.cell (i := 1) rfl
    have y2 := hr.cell (i := 2) rfl
    have y3 := hr.cell (i := 3) rfl
    have y4 := hr.cell (i := 4) rfl
    dsimp only at y0 y1 y2 y3 y4
    clear hX hr c0 c1 c2 c3 c4 HR
    by_cases h1 : tx < 0
    · have HE : Box (RedoM.go RedoM.St.init l = 1) := ⟨by rw [HGo.out, RedoM.err_range (Or.inl h1), if_pos (by decide)]⟩
      have d0 : decide (tx < 0) = true := decide_eq_true h1
      clear h1
      go_wp2_with fail
      go_ret
      exact ⟨by rw [HE.out]; rfl, HX.out.below⟩
    have d0 : decide (tx < 0) = false := decide_eq_false h1
    have g0 := box h1
    clear h1
    by_cases h1 : 12 ≤ tx
    · have HE : Box (RedoM.go RedoM.St.init l = 1) := ⟨by rw [HGo.out, RedoM.err_range (Or.inr (Or.inl h1)), if_pos (by decide)]⟩
      have d1 : decide (12 ≤ tx) = true := decide_eq_true h1
      clear h1
      go_wp2_with fail
      go_ret
      exact ⟨by rw [HE.out]; rfl, HX.out.below⟩
    have d1 : decide (12 ≤ tx) = false := decide_eq_false h1
    have g1 := box h1
    clear h1
    by_cases h1 : it < 0
    · have HE : Box (RedoM.go RedoM.St.init l = 1) := ⟨by rw [HGo.out, RedoM.err_range (Or.inr (Or.inr (Or.inl h1))), if_pos (by decide)]⟩
      have d2 : decide (it < 0) = true := decide_eq_true h1
      clear h1
      go_wp2_with fail
      go_ret
      exact ⟨by rw [HE.out]; rfl, HX.out.below⟩
    have d2 : decide (it < 0) = false := decide_eq_false h1
    have g2 := box h1
    clear h1
    by_cases h1 : 20 ≤ it
    · have HE : Box (RedoM.go RedoM.St.init l = 1) := ⟨by rw [HGo.out, RedoM.err_range (Or.inr (Or.inr (Or.inr h1))), if_pos (by decide)]⟩
      have d3 : decide (20 ≤ it) = true := decide_eq_true h1
      clear h1
      go_wp2_with fail
      go_ret
      exact ⟨by rw [HE.out]; rfl, HX.out.below⟩
    have d3 : decide (20 ≤ it) = false := decide_eq_false h1
    have g3 := box h1
    clear h1
    obtain ⟨t, ht⟩ := Int.eq_ofNat_of_zero_le (show 0 ≤ tx by have := g0.out; omega)
    obtain ⟨i, hi⟩ := Int.eq_ofNat_of_zero_le (show 0 ≤ it by have := g2.out; omega)
    subst ht; subst hi
    have ht12 : t < 12 := by have := g1.out; omega
    have hi20 : i < 20 := by have := g3.out; omega
    have HRg : Box (¬ ((t : Int) < 0 ∨ 12 ≤ (t : Int) ∨ (i : Int) < 0 ∨ 20 ≤ (i : Int))) := ⟨by omega⟩
    have z0 := HX.out.over.tabCell ht12
    have hti : (t : Int) < 12 := by omega
    have hii : (i : Int) < 20 := by omega
    clear d0 d1 d2 d3 g0 g1 g2 g3
    cases hov : s.over (t : Int) with
    | true =>
      have HE : Box (RedoM.go RedoM.St.init l = 4) := ⟨by rw [HGo.out, RedoM.err_over HRg.out hov, if_pos (by decide)]⟩
      rw [hov] at z0
      go_wp2_with fail
      go_ret
      exact ⟨by rw [HE.out]; rfl, HX.out.below⟩
    | false =>
    rw [hov] at z0
    by_cases hk1 : kd = 1
    · subst hk1
      have HE1 := box (RedoM.err_one (s := s) (r := ⟨1, t, i, od, nw⟩) HRg.out hov rfl)
      have Hov := box hov
      clear hov
      obtain ⟨D, m, hm, hown, hrep⟩ := HX.out.owner
      have hkey : keyOf Try.prog 3 (.int .i64 (i : Int)) = some (.int .i64 (i : Int)) := keyOf_int_mk Try.underlying3 (WalkArith.wf_i64 (by omega))
      have hlook := RedoM.look hown hkey hrep
      have z1 := HX.out.value.tabCell hi20
      have Hown := box hown; have Hrep := box hrep; have Hkey := box hkey
      clear hown hrep hkey
      obtain ⟨o, HOw⟩ : ∃ o, Box (s.owner (i : Int) = o) := ⟨_, ⟨rfl⟩⟩
      obtain ⟨v, HVl⟩ : ∃ o, Box (s.value (i : Int) = o) := ⟨_, ⟨rfl⟩⟩
      dsimp only at HE1
      rw [HOw.out, HVl.out] at HE1
      rw [HOw.out] at hlook
      rw [HVl.out] at z1
      have w1 : IntKind.i64.wrap ((t : Int) + 1) = (t : Int) + 1 := IntWalk.i64_in _ (by omega)
      go_upto_region 17 with (fail)
      go_cut [68] (fun t68 wx => t68 = .bool (decide ((o ≠ 0 ∧ o ≠ (t : Int) + 1) ∨ od ≠ v)) ∧ ∃ n, wx = X.drewN n)
      case first =>
        by_cases e1 : o = 0
        · have q1 : (o != 0) = false := by simpa using e1
          by_cases e3 : od = v
          · have q3 : (od != v) = false := by simpa using e3
            have HD : Box (decide ((o ≠ 0 ∧ o ≠ (t : Int) + 1) ∨ od ≠ v) = false) := ⟨by simp [e1, e3]⟩
            clear e1 e3
            go_quiet (fail)
            go_step
            go_step
            go_meet
            exact ⟨by rw [HD.out], _, rfl⟩
          · have q3 : (od != v) = true := by simpa using e3
            have HD : Box (decide ((o ≠ 0 ∧ o ≠ (t : Int) + 1) ∨ od ≠ v) = true) := ⟨by simp [e3]⟩
            clear e1 e3
            go_quiet (fail)
            go_step
            go_step
            go_meet
            exact ⟨by rw [HD.out], _, rfl⟩
        · have q1 : (o != 0) = true := by simpa using e1
          by_cases e2 : o = (t : Int) + 1
          · have q2 : (o != (t : Int) + 1) = false := by simpa using e2
            by_cases e3 : od = v
            · have q3 : (od != v) = false := by simpa using e3
              have HD : Box (decide ((o ≠ 0 ∧ o ≠ (t : Int) + 1) ∨ od ≠ v) = false) := ⟨by simp [e2, e3]⟩
              clear e1 e2 e3
              go_quiet (fail)
              go_step
              go_step
              go_meet
              exact ⟨by rw [HD.out], _, rfl⟩
            · have q3 : (od != v) = true := by simpa using e3
              have HD : Box (decide ((o ≠ 0 ∧ o ≠ (t : Int) + 1) ∨ od ≠ v) = true) := ⟨by simp [e3]⟩
              clear e1 e2 e3
              go_quiet (fail)
              go_step
              go_step
              go_meet
              exact ⟨by rw [HD.out], _, rfl⟩
          · have q2 : (o != (t : Int) + 1) = true := by simpa using e2
            have HD : Box (decide ((o ≠ 0 ∧ o ≠ (t : Int) + 1) ∨ od ≠ v) = true) := ⟨by simp [e1, e2]⟩
            clear e1 e2
            go_quiet (fail)
            go_step
            go_step
            go_meet
            exact ⟨by rw [HD.out], _, rfl⟩
      case rest =>
      obtain ⟨rfl, n9, rfl⟩ := hcut
      by_cases hbad : (o ≠ 0 ∧ o ≠ (t : Int) + 1) ∨ od ≠ v
      · have HE : Box (RedoM.go RedoM.St.init l = 4) := ⟨by rw [HGo.out, HE1.out, if_pos hbad, if_pos (by decide)]⟩
        rw [decide_eq_true hbad]
        clear hbad
        go_wp2_with fail
        go_ret
        exact ⟨by rw [HE.out]; rfl, (HX.out.drewN n9).below⟩
      rw [decide_eq_false hbad]
      have HGn : Box (RedoM.go RedoM.St.init l = RedoM.go (RedoM.next s ⟨1, t, i, od, nw⟩) (l.drop (k + 1))) := ⟨by rw [HGo.out, HE1.out, if_neg hbad, if_neg (by decide)]⟩
      clear hbad
      go_upto_region 19 with (fail)
      refine name_world (fun Y => RedoCW w Bo Bm Bv k s Y ∧ Blk Y Br 25 (RecM.vals ⟨1, (t : Int), (i : Int), od, nw⟩)) ⟨HX.out.drewN n9, HRb.out⟩ ?_
      rintro Y ⟨hY, hrY⟩
      have HY := box hY
      have y0 := hrY.cell (i := 0) rfl
      have y1 := hrY.cell (i := 1) rfl
      have y2 := hrY.cell (i := 2) rfl
      have y3 := hrY.cell (i := 3) rfl
      have y4 := hrY.cell (i := 4) rfl
      dsimp only at y0 y1 y2 y3 y4
      obtain ⟨D2, m2, hm2, hown2, hrep2⟩ := hY.owner
      obtain ⟨Y7, hrun, hown7, hgrow7⟩ := (World.ownsMap.drew hown2).update RedoM.law Try.underlying96 (by unfold maxLen; omega) (Hkey.out) (plainElem_int Try.underlying3 (a := (t : Int) + 1) (WalkArith.wf_i64 (by omega)))
      have hmo : Bm ≠ Bo := by have := HBm.out; have := HBo.out; omega
      have hmv : Bm ≠ Bv := by have := HBm.out; have := HBv.out; omega
      have hov' := hY.over.drew.grown hgrow7 (by intro e; injection e with e; exact hmo e)
      have hvl' := hY.value.drew.grown hgrow7 (by intro e; injection e with e; exact hmv e)
      have hr7 := hrY.drew.grown hgrow7 (by intro e; injection e with e; exact hrY.ne_map hown2 e)
      have u0 := hr7.cell (i := 0) rfl
      have u1 := hr7.cell (i := 1) rfl
      have u2 := hr7.cell (i := 2) rfl
      have u3 := hr7.cell (i := 3) rfl
      have u4 := hr7.cell (i := 4) rfl
      dsimp only at u0 u1 u2 u3 u4
      have z2 := hvl'.tabCell hi20
      have z3 := hvl'.frozen i
      have HW9 : Box (RedoCW w Bo Bm Bv (k + 1) (RedoM.next s ⟨1, t, i, od, nw⟩) (Y7.setCell ⟨Bv, i, none⟩ (.int .i64 nw))) := ⟨by
        have hnx : RedoM.next s ⟨1, t, i, od, nw⟩ = ⟨s.over, RedoM.upI s.owner (i : Int) ((t : Int) + 1), RedoM.upI s.value (i : Int) nw⟩ := by unfold RedoM.next; rw [if_pos rfl]
        have hbv : w.heap.size ≤ Bv := by have := HBv.out; omega
        have hbm : w.heap.size ≤ Bm := by have := HBm.out; omega
        rw [hnx]
        refine ⟨hov'.other (by have := HBo.out; have := HBv.out; show Bo ≠ Bv; omega) _, ?_, ⟨_, m2 + 1, by omega, hown7.setCell hmv _, hrep2.put _ _⟩, ((hY.below.drew).grown hgrow7 hY.below.size (fun j hj => by injection hj with hj; omega)).setCell hbv _⟩
        have h1 := hvl'.tabSet i (.int .i64 nw)
        rw [Tab_congr (g := fun j => .int .i64 (RedoM.upI s.value (i : Int) nw (j : Int))) (fun j hj => ?_)] at h1
        · exact h1
        · by_cases e : j = i
          · subst e; rw [upd_same, RedoM.upI_same]
          · rw [upd_other _ _ e, RedoM.upI_other _ _ (fun h => e (by omega))]⟩
      clear hY hrY hr7 hown2 hown7 hgrow7 hov' hvl' hrep2
      go_region
      go_wp2_with fail
      go_roundw
      case rel => exact ⟨k + 1, hlt, by go_num, by rw [HTk.out]; exact HW9, by rw [HTk.out]; exact HGn⟩
      case measure => simp [intOf]; omega
    have HGk := HGo
    by_cases hk2 : kd = 2
    · subst hk2
      clear HGo
      have HE1 := box (RedoM.err_two (s := s) (r := ⟨2, t, i, od, nw⟩) HRg.out hov (by simp) (by simp))
      dsimp only at HE1
      have Hov := box hov
      clear hov
      by_cases hbad : (i : Int) ≠ 0 ∨ od ≠ 0 ∨ nw ≠ 0
      · have HE : Box (RedoM.go RedoM.St.init l = 4) := ⟨by rw [HGk.out, HE1.out, if_pos hbad, if_pos (by decide)]⟩
        by_cases e1 : (i : Int) = 0
        · have q1 : ((i : Int) != 0) = false := by simpa using e1
          by_cases e2 : od = 0
          · have q2 : (od != 0) = false := by simpa using e2
            have q3 : (nw != 0) = true := by
              simp only [bne_iff_ne]
              rcases hbad with h | h | h
              · exact absurd e1 h
              · exact absurd e2 h
              · exact h
            clear hbad e1 e2
            go_wp2_with fail
            go_ret
            exact ⟨by rw [HE.out]; rfl, HX.out.below⟩
          · have q2 : (od != 0) = true := by simpa using e2
            clear hbad e1 e2
            go_wp2_with fail
            go_ret
            exact ⟨by rw [HE.out]; rfl, HX.out.below⟩
        · have q1 : ((i : Int) != 0) = true := by simpa using e1
          clear hbad e1
          go_wp2_with fail
          go_ret
          exact ⟨by rw [HE.out]; rfl, HX.out.below⟩
      have HGn : Box (RedoM.go RedoM.St.init l = RedoM.go (RedoM.next s ⟨2, t, i, od, nw⟩) (l.drop (k + 1))) := ⟨by rw [HGk.out, HE1.out, if_neg hbad, if_neg (by decide)]⟩
      have q1 : ((i : Int) != 0) = false := by
        cases h : ((i : Int) != 0) with
        | false => rfl
        | true => exact absurd (Or.inl (by simpa using h)) hbad
      have q2 : (od != 0) = false := by
        cases h : (od != 0) with
        | false => rfl
        | true => exact absurd (Or.inr (Or.inl (by simpa using h))) hbad
      have q3 : (nw != 0) = false := by
        cases h : (nw != 0) with
        | false => rfl
        | true => exact absurd (Or.inr (Or.inr (by simpa using h))) hbad
      clear hbad
      have z9 := HX.out.over.frozen t
      obtain ⟨D, m, hm, hown, hrep⟩ := HX.out.owner
      have hmo : Bm ≠ Bo := HX.out.over.ne_map hown
      have hmv : Bm ≠ Bv := HX.out.value.ne_map hown
      have hmr : Bm ≠ Br := HRb.out.ne_map hown
      have hbo : w.heap.size ≤ Bo := by have := HBo.out; omega
      have hbm : w.heap.size ≤ Bm := by have := HBm.out; omega
      have hvo : Bv ≠ Bo := by have := HBo.out; have := HBv.out; omega
      have hro : Br ≠ Bo := HRb.out.ne HX.out.over (by decide)
      have Hown := box hown; have Hrep := box hrep
      clear hown hrep
      go_upto_region 25 with (fail)
      refine name_world (fun Y => Blk Y Bo 90 (Tab 12 (fun i => .bool (RedoM.upI s.over (t : Int) true (i : Int)))) ∧ Blk Y Bv 23 (Tab 20 (fun i => .int .i64 (s.value (i : Int)))) ∧ Blk Y Br 25 (RecM.vals ⟨2, (t : Int), (i : Int), od, nw⟩) ∧
        Y.ownsMap Try.prog 3 (plainElem (H := Unit) Try.prog 3) Bm m D ∧ Below w.heap.size w Y) ⟨?_, HX.out.value.other hvo _, HRb.out.other hro _, Hown.out.setCell hmo _, HX.out.below.setCell hbo _⟩ ?_
      · have h1 := HX.out.over.tabSet t (.bool true)
        rw [Tab_congr (g := fun j => .bool (RedoM.upI s.over (t : Int) true (j : Int))) (fun j hj => ?_)] at h1
        · exact h1
        · by_cases e : j = t
          · subst e; rw [upd_same, RedoM.upI_same]
          · rw [upd_other _ _ e, RedoM.upI_other _ _ (fun h => e (by omega))]
      rintro Y ⟨hYo, hYv, hYr, hYm, hYb⟩
      have HYo := box hYo; have HYv := box hYv; have HYr := box hYr; have HYb := box hYb
      have hlo := hYo.lt; have hlv := hYv.lt; have hlr := hYr.lt
      clear hYo hYv hYr hYb z0 z9 y0 y1 y2 y3 y4
      go_wp2_with (at_range; refine wpList_range_own _ rfl _ 96 rfl 3 3 RedoM.law Try.underlying96 _ Bm m D rfl hYm ?_; intro w0 hrg0 hg0 hs0)
      go_frame
      go_loopw [9] (fun _ wx => ∃ (left : Lit → Bool) (cnt : Nat) (D' : DataW Unit), Box (wx.ranges Try.prog 3 (plainElem (H := Unit) Try.prog 3) Bm Y.heap.size m D' left cnt) ∧ Box (RedoM.Rep D' (RedoM.cutF s.owner ((t : Int) + 1) left)) ∧ Box (Y.grownBy wx (some Bm))) (fun _ wx => wx.rangeLeft Bm Y.heap.size)
      case atStart => exact ⟨_, _, D, ⟨hrg0⟩, ⟨RedoM.cut_start Hrep.out⟩, ⟨hg0.but _⟩⟩
      case round =>
        obtain ⟨left, cnt, D', Hrg, Hrp, Hgw⟩ := hrel
        have hrg := Hrg.out
        go_wp2_with (at_next; refine wpList_next_ranges_ii _ rfl _ rfl 3 3 .i64 .i64 RedoM.law Try.underlying3 Try.underlying3 Bm Y.heap.size m _ _ _ rfl hrg ?_ ?_)
        · intro _ hl0
          have HW9 : Box (RedoCW w Bo Bm Bv (k + 1) (RedoM.next s ⟨2, t, i, od, nw⟩) wr) := ⟨by
            have hnx : RedoM.next s ⟨2, t, i, od, nw⟩ = ⟨RedoM.upI s.over (t : Int) true, fun i => if s.owner i = (t : Int) + 1 then 0 else s.owner i, s.value⟩ := by unfold RedoM.next; rw [if_neg (by simp)]
            rw [hnx]
            exact ⟨HYo.out.grown Hgw.out (by intro e; injection e with e; exact hmo e), HYv.out.grown Hgw.out (by intro e; injection e with e; exact hmv e),
              ⟨D', m, by omega, Hrg.out.owns, RedoM.cut_end Hrp.out hl0⟩, HYb.out.grown Hgw.out HYb.out.size (fun j hj => by injection hj with hj; omega)⟩⟩
          clear hl0 hrg
          go_wp2_with fail
          go_roundw
          case rel => exact ⟨k + 1, hlt, by go_num, by rw [HTk.out]; exact HW9, by rw [HTk.out]; exact HGn⟩
          case measure => simp [intOf]; omega
        · intro x c w1 cnt1 hwx hwc hlx hat hrg1 hlt1 hg1 hs1 hen
          have Hgw1 := box (Hgw.out.andThen hg1 (fun j hj => by cases hj; exact Or.inl (Nat.le_refl _)))
          have hr1 := HYr.out.grown Hgw1.out (by intro e; injection e with e; exact hmr e)
          have u1 := hr1.cell (i := 1) rfl
          dsimp only at u1
          have hfy := RedoM.cut_val Hrp.out hlx hat
          have w1' : IntKind.i64.wrap ((t : Int) + 1) = (t : Int) + 1 := IntWalk.i64_in _ (by omega)
          have Hrg1 := box hrg1
          have Hen := box hen
          have hlf := Hrg.out.left_eq
          by_cases hc : c = (t : Int) + 1
          · have qc : (c == (t : Int) + 1) = true := by simpa using hc
            have Hdel := box (RedoM.cut_del Hrp.out (hfy.trans hc))
            have Hkx := box (keyOf_int_mk Try.underlying3 hwx)
            clear hc hat hlx hfy hg1 hs1 hr1 hrg1 hwc
            go_wp2_with (at_delete; refine wpList_delete_ranges _ rfl _ _ 96 3 rfl 3 RedoM.law Try.underlying96 _ Bm Y.heap.size m _ _ _ rfl Hrg1.out _ _ rfl Hkx.out ?_; intro w2 cnt2 hrg2 hle hturn; go_frame)
            rw [strike_twice] at hrg2
            have Hrg2 := box hrg2
            have Hgw2 := box (Hgw1.out.andThen hturn.grown (fun j hj => by cases hj; exact Or.inr rfl))
            clear hrg2 hturn
            go_roundw
            case rel => exact ⟨_, cnt2, _, Hrg2, Hdel, Hgw2⟩
            case measure => rw [Hrg2.out.left_eq, Hrg.out.left_eq]; omega
          · have qc : (c == (t : Int) + 1) = false := by simpa using hc
            have Hst := box (RedoM.cut_stay Hrp.out hlx (fun h => hc (hfy.symm.trans h)))
            clear hc hat hlx hfy hg1 hs1 hr1 hrg1 hwc
            go_wp2_with fail
            go_roundw
            case rel => exact ⟨_, cnt1, _, Hrg1, Hst, Hgw1⟩
            case measure => rw [Hrg1.out.left_eq, Hrg.out.left_eq]; exact hlt1
    by_cases hk3 : kd = 3
    · subst hk3
      clear HGo
      have HE1 := box (RedoM.err_two (s := s) (r := ⟨3, t, i, od, nw⟩) HRg.out hov (by simp) (by simp))
      dsimp only at HE1
      have Hov := box hov
      clear hov
      by_cases hbad : (i : Int) ≠ 0 ∨ od ≠ 0 ∨ nw ≠ 0
      · have HE : Box (RedoM.go RedoM.St.init l = 4) := ⟨by rw [HGk.out, HE1.out, if_pos hbad, if_pos (by decide)]⟩
        by_cases e1 : (i : Int) = 0
        · have q1 : ((i : Int) != 0) = false := by simpa using e1
          by_cases e2 : od = 0
          · have q2 : (od != 0) = false := by simpa using e2
            have q3 : (nw != 0) = true := by
              simp only [bne_iff_ne]
              rcases hbad with h | h | h
              · exact absurd e1 h
              · exact absurd e2 h
              · exact h
            clear hbad e1 e2
            go_wp2_with fail
            go_ret
            exact ⟨by rw [HE.out]; rfl, HX.out.below⟩
          · have q2 : (od != 0) = true := by simpa using e2
            clear hbad e1 e2
            go_wp2_with fail
            go_ret
            exact ⟨by rw [HE.out]; rfl, HX.out.below⟩
        · have q1 : ((i : Int) != 0) = true := by simpa using e1
          clear hbad e1
          go_wp2_with fail
          go_ret
          exact ⟨by rw [HE.out]; rfl, HX.out.below⟩
      have HGn : Box (RedoM.go RedoM.St.init l = RedoM.go (RedoM.next s ⟨3, t, i, od, nw⟩) (l.drop (k + 1))) := ⟨by rw [HGk.out, HE1.out, if_neg hbad, if_neg (by decide)]⟩
      have q1 : ((i : Int) != 0) = false := by
        cases h : ((i : Int) != 0) with
        | false => rfl
        | true => exact absurd (Or.inl (by simpa using h)) hbad
      have q2 : (od != 0) = false := by
        cases h : (od != 0) with
        | false => rfl
        | true => exact absurd (Or.inr (Or.inl (by simpa using h))) hbad
      have q3 : (nw != 0) = false := by
        cases h : (nw != 0) with
        | false => rfl
        | true => exact absurd (Or.inr (Or.inr (by simpa using h))) hbad
      clear hbad
      have z9 := HX.out.over.frozen t
      obtain ⟨D, m, hm, hown, hrep⟩ := HX.out.owner
      have hmo : Bm ≠ Bo := HX.out.over.ne_map hown
      have hmv : Bm ≠ Bv := HX.out.value.ne_map hown
      have hmr : Bm ≠ Br := HRb.out.ne_map hown
      have hbo : w.heap.size ≤ Bo := by have := HBo.out; omega
      have hbm : w.heap.size ≤ Bm := by have := HBm.out; omega
      have hvo : Bv ≠ Bo := by have := HBo.out; have := HBv.out; omega
      have hro : Br ≠ Bo := HRb.out.ne HX.out.over (by decide)
      have Hown := box hown; have Hrep := box hrep
      clear hown hrep
      go_upto_region 25 with (fail)
      refine name_world (fun Y => Blk Y Bo 90 (Tab 12 (fun i => .bool (RedoM.upI s.over (t : Int) true (i : Int)))) ∧ Blk Y Bv 23 (Tab 20 (fun i => .int .i64 (s.value (i : Int)))) ∧ Blk Y Br 25 (RecM.vals ⟨3, (t : Int), (i : Int), od, nw⟩) ∧
        Y.ownsMap Try.prog 3 (plainElem (H := Unit) Try.prog 3) Bm m D ∧ Below w.heap.size w Y) ⟨?_, HX.out.value.other hvo _, HRb.out.other hro _, Hown.out.setCell hmo _, HX.out.below.setCell hbo _⟩ ?_
      · have h1 := HX.out.over.tabSet t (.bool true)
        rw [Tab_congr (g := fun j => .bool (RedoM.upI s.over (t : Int) true (j : Int))) (fun j hj => ?_)] at h1
        · exact h1
        · by_cases e : j = t
          · subst e; rw [upd_same, RedoM.upI_same]
          · rw [upd_other _ _ e, RedoM.upI_other _ _ (fun h => e (by omega))]
      rintro Y ⟨hYo, hYv, hYr, hYm, hYb⟩
      have HYo := box hYo; have HYv := box hYv; have HYr := box hYr; have HYb := box hYb
      have hlo := hYo.lt; have hlv := hYv.lt; have hlr := hYr.lt
      clear hYo hYv hYr hYb z0 z9 y0 y1 y2 y3 y4
      go_wp2_with (at_range; refine wpList_range_own _ rfl _ 96 rfl 3 3 RedoM.law Try.underlying96 _ Bm m D rfl hYm ?_; intro w0 hrg0 hg0 hs0)
      go_frame
      go_loopw [9] (fun _ wx => ∃ (left : Lit → Bool) (cnt : Nat) (D' : DataW Unit), Box (wx.ranges Try.prog 3 (plainElem (H := Unit) Try.prog 3) Bm Y.heap.size m D' left cnt) ∧ Box (RedoM.Rep D' (RedoM.cutF s.owner ((t : Int) + 1) left)) ∧ Box (Y.grownBy wx (some Bm))) (fun _ wx => wx.rangeLeft Bm Y.heap.size)
      case atStart => exact ⟨_, _, D, ⟨hrg0⟩, ⟨RedoM.cut_start Hrep.out⟩, ⟨hg0.but _⟩⟩
      case round =>
        obtain ⟨left, cnt, D', Hrg, Hrp, Hgw⟩ := hrel
        have hrg := Hrg.out
        go_wp2_with (at_next; refine wpList_next_ranges_ii _ rfl _ rfl 3 3 .i64 .i64 RedoM.law Try.underlying3 Try.underlying3 Bm Y.heap.size m _ _ _ rfl hrg ?_ ?_)
        · intro _ hl0
          have HW9 : Box (RedoCW w Bo Bm Bv (k + 1) (RedoM.next s ⟨3, t, i, od, nw⟩) wr) := ⟨by
            have hnx : RedoM.next s ⟨3, t, i, od, nw⟩ = ⟨RedoM.upI s.over (t : Int) true, fun i => if s.owner i = (t : Int) + 1 then 0 else s.owner i, s.value⟩ := by unfold RedoM.next; rw [if_neg (by simp)]
            rw [hnx]
            exact ⟨HYo.out.grown Hgw.out (by intro e; injection e with e; exact hmo e), HYv.out.grown Hgw.out (by intro e; injection e with e; exact hmv e),
              ⟨D', m, by omega, Hrg.out.owns, RedoM.cut_end Hrp.out hl0⟩, HYb.out.grown Hgw.out HYb.out.size (fun j hj => by injection hj with hj; omega)⟩⟩
          clear hl0 hrg
          go_wp2_with fail
          go_roundw
          case rel => exact ⟨k + 1, hlt, by go_num, by rw [HTk.out]; exact HW9, by rw [HTk.out]; exact HGn⟩
          case measure => simp [intOf]; omega
        · intro x c w1 cnt1 hwx hwc hlx hat hrg1 hlt1 hg1 hs1 hen
          have Hgw1 := box (Hgw.out.andThen hg1 (fun j hj => by cases hj; exact Or.inl (Nat.le_refl _)))
          have hr1 := HYr.out.grown Hgw1.out (by intro e; injection e with e; exact hmr e)
          have u1 := hr1.cell (i := 1) rfl
          dsimp only at u1
          have hfy := RedoM.cut_val Hrp.out hlx hat
          have w1' : IntKind.i64.wrap ((t : Int) + 1) = (t : Int) + 1 := IntWalk.i64_in _ (by omega)
          have Hrg1 := box hrg1
          have Hen := box hen
          have hlf := Hrg.out.left_eq
          by_cases hc : c = (t : Int) + 1
          · have qc : (c == (t : Int) + 1) = true := by simpa using hc
            have Hdel := box (RedoM.cut_del Hrp.out (hfy.trans hc))
            have Hkx := box (keyOf_int_mk Try.underlying3 hwx)
            clear hc hat hlx hfy hg1 hs1 hr1 hrg1 hwc
            go_wp2_with (at_delete; refine wpList_delete_ranges _ rfl _ _ 96 3 rfl 3 RedoM.law Try.underlying96 _ Bm Y.heap.size m _ _ _ rfl Hrg1.out _ _ rfl Hkx.out ?_; intro w2 cnt2 hrg2 hle hturn; go_frame)
            rw [strike_twice] at hrg2
            have Hrg2 := box hrg2
            have Hgw2 := box (Hgw1.out.andThen hturn.grown (fun j hj => by cases hj; exact Or.inr rfl))
            clear hrg2 hturn
            go_roundw
            case rel => exact ⟨_, cnt2, _, Hrg2, Hdel, Hgw2⟩
            case measure => rw [Hrg2.out.left_eq, Hrg.out.left_eq]; omega
          · have qc : (c == (t : Int) + 1) = false := by simpa using hc
            have Hst := box (RedoM.cut_stay Hrp.out hlx (fun h => hc (hfy.symm.trans h)))
            clear hc hat hlx hfy hg1 hs1 hr1 hrg1 hwc
            go_wp2_with fail
            go_roundw
            case rel => exact ⟨_, cnt1, _, Hrg1, Hst, Hgw1⟩
            case measure => rw [Hrg1.out.left_eq, Hrg.out.left_eq]; exact hlt1
    have HE : Box (RedoM.go RedoM.St.init l = 4) := ⟨by rw [HGo.out, RedoM.err_no HRg.out hov hk1 (fun h => h.elim hk2 hk3), if_pos (by decide)]⟩
    have q1 : (kd == 1) = false := by simpa using hk1
    have q2 : (kd == 2) = false := by simpa using hk2
    have q3 : (kd == 3) = false := by simpa using hk3
    clear hk1 hk2 hk3 hov
    go_wp2_with fail
    go_ret
    exact ⟨by rw [HE.out]; rfl, HX.out.below⟩

theorem redoCheck_any (l : List RecM) (ao : Option Addr) (cap : Nat) (w : World) (h : RecsAt w ao l) (hn : l.length ≤ 9000000000000000) :
    Calls Try.prog 42 #[.slice ao l.length cap] w fun e w' => e = .returned (.int .i64 (RedoM.check l)) ∧ Below w.heap.size w w' := by
  by_cases hl : 400 < l.length
  · have HE : Box (RedoM.check l = 2) := ⟨by unfold RedoM.check; rw [if_pos hl]⟩
    have d0 : decide ((400 : Int) < (l.length : Int)) = true := by simp; omega
    clear hl h
    go_enter Try.func42, Try.ntmps42
    go_wp2_with fail
    go_ret
    exact ⟨by rw [HE.out]; rfl, Below.refl _ _⟩
  · have HE : RedoM.check l = RedoM.go RedoM.St.init l := by unfold RedoM.check; rw [if_neg hl]
    rw [HE]
    exact redoCheck_main l ao cap w h (by omega)
end Go.Proofs.Ytfmgncfikaefhaa
