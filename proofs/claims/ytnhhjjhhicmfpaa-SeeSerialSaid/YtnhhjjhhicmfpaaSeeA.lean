/- see.Alike of right runs in which nobody aborts: what it answers. -/
import Derived.Test.YtnhhjjhhicmfpaaSeeVM
import Derived.Test.YtnhhjjhhicmfpaaSeeV
namespace Go.Proofs.Ytnhhjjhhicmfpaa
section
open Go.RowKit Go.Lib Go.ChangeMaps

theorem nm_eq2 (a b : EgM) (w : World) : (Op.equalIn 9999 93 (nmV a) (nmV b)).run Try.prog w = .ok (decide (a = b)) w := by
  obtain ⟨a0, a1⟩ := a
  obtain ⟨c0, c1⟩ := b
  have hd : decide ((⟨a0, a1⟩ : EgM) = ⟨c0, c1⟩) = (a0 == c0 && a1 == c1) := by
    rw [Bool.eq_iff_iff]; simp
  rw [hd]
  unfold nmV
  dsimp only
  cases h0 : (a0 == c0) <;> cases h1 : (a1 == c1) <;> go_simp
theorem nm_part (f : Nat → EgM) {i : Nat} (hi : i < 20) (w : World) : (part 93 (ETab f).toArray (i * 2)).run Try.prog w = .ok (nmV (f i)) w := by
  unfold part nmV
  go_simp
  apply List.ext_getElem
  · simp [ETab_len]; omega
  · intro j h1 h2
    have hj : j < 2 := by simpa using h2
    simp only [List.getElem_take, List.getElem_drop]
    obtain ⟨g0, g1⟩ := ETab_get f hi
    rcases (show j = 0 ∨ j = 1 by omega) with rfl | rfl
    · have := (List.getElem?_eq_some_iff.1 g0).2
      simpa using this
    · have := (List.getElem?_eq_some_iff.1 g1).2
      simpa using this
theorem nm_items (f g : Nat → EgM) (w : World) : ∀ is : List Nat, (∀ i ∈ is, i < 20) → (Op.eqItems 9999 93 2 (ETab f).toArray (ETab g).toArray is).run Try.prog w = .ok (is.all fun i => decide (f i = g i)) w
  | [], _ => by simp [Op.eqItems]
  | i :: is, h => by
    have h1 := nm_part f (h i (by simp)) w
    have h2 := nm_part g (h i (by simp)) w
    have h3 := nm_eq2 (f i) (g i) w
    have ih := nm_items f g w is (fun j hj => h j (by simp [hj]))
    simp only [Op.eqItems, Sem.run_bind, h1, h2, h3, Result.andThen_ok]
    by_cases e : f i = g i
    · simp only [decide_eq_true e, Bool.not_true, Bool.false_eq_true, if_false, ih, List.all_cons, Bool.true_and]
    · simp [decide_eq_false e]
theorem names_eq (f g : Nat → EgM) (w : World) : (Op.equalIn 10000 94 (.agg (ETab f).toArray) (.agg (ETab g).toArray)).run Try.prog w = .ok ((List.range 20).all fun i => decide (f i = g i)) w := by
  have hI : (Try.prog.info? 93).isSome = true := by kernel_rfl
  obtain ⟨i0, hi0⟩ := Option.isSome_iff_exists.1 hI
  have hc : Try.prog.cellsOf 93 = 2 := by kernel_rfl
  rw [run_equalIn_array w 9999 _ _ Try.underlying94 hi0, hc, nm_items]
  intro i hi
  exact List.mem_range.1 hi
/-- While a map is ranged over: F: the map, G: another one, r: the iterator. -/
structure SeeM.AW (w : World) (F G r : Nat) (fa gb : List (EgM × EgM)) (seen : Array Nat) (wx : World) : Prop where
  hr : w.heap.size ≤ r
  below : Below w.heap.size w wx
  mapF : StMap wx F fa
  mapG : StMap wx G gb
  iter : wx.heap[r]? = some (.mapIter (some F) fa.length seen fa.length)
section
variable {w wx wy : World} {F G r : Nat} {fa gb : List (EgM × EgM)} {seen : Array Nat}
theorem SeeM.AW.after (h : SeeM.AW w F G r fa gb seen wx) (hb : Below wx.heap.size wx wy) : SeeM.AW w F G r fa gb seen wy :=
  ⟨h.hr, below_tr h.below hb, h.mapF.after hb, h.mapG.after hb, (hb.block r (Array.getElem?_eq_some_iff.1 h.iter).1).trans h.iter⟩
theorem SeeM.AW.ne (h : SeeM.AW w F G r fa gb seen wx) : r ≠ F ∧ r ≠ G := by
  constructor
  · rintro rfl
    have := h.iter; rw [h.mapF] at this; cases this
  · rintro rfl
    have := h.iter; rw [h.mapG] at this; cases this
theorem SeeM.AW.turn (h : SeeM.AW w F G r fa gb seen wx) (seen' : Array Nat) {w1 : World} (h1 : w1 = wx ∨ w1 = wx.drew) : SeeM.AW w F G r fa gb seen' (setBlock w1 r (.mapIter (some F) fa.length seen' fa.length)) := by
  have hne := h.ne
  have hlt := (Array.getElem?_eq_some_iff.1 h.iter).1
  have h2 : SeeM.AW w F G r fa gb seen w1 := by
    rcases h1 with rfl | rfl
    · exact h
    · exact h.after (Below.refl _ _).drew
  have hlt2 : r < w1.heap.size := by rcases h1 with rfl | rfl <;> exact hlt
  refine ⟨h.hr, ⟨h2.below.os, h2.below.tape, h2.below.output, by simp [setBlock]; exact h2.below.size, fun k hk => ?_⟩, ?_, ?_, ?_⟩
  · have : r ≠ k := by have := h.hr; omega
    simp only [setBlock]
    rw [Array.getElem?_setIfInBounds_ne this]
    exact h2.below.block k hk
  · have := h2.mapF
    unfold StMap at this ⊢
    simp only [setBlock]
    rw [Array.getElem?_setIfInBounds_ne hne.1]; exact this
  · have := h2.mapG
    unfold StMap at this ⊢
    simp only [setBlock]
    rw [Array.getElem?_setIfInBounds_ne hne.2]; exact this
  · simp [setBlock, hlt2]
end
theorem stEnts_len : ∀ (l : List (EgM × EgM)) (s : Nat), (stEnts s l).length = l.length
  | [], _ => rfl
  | p :: r, s => by rw [stEnts, List.length_cons, List.length_cons, stEnts_len r]
theorem StMap.len {w : World} {b : Nat} {l : List (EgM × EgM)} (h : StMap w b l) (ty : TypeId) : (Builtin.len_ #[91] ty #[.map (some b)]).run Try.prog w = .ok (.int .i64 (l.length : Int)) w := by
  have hg := MapKept.run_getObj_map (P := Try.prog) h
  have hl : (stEnts 0 l).toArray.size = l.length := by rw [List.size_toArray]; exact stEnts_len l 0
  simp [Builtin.len_, run_underlying Try.underlying91, hg, Result.andThen, goInt, stEnts_len]
theorem SeeM.AW.seen {w wx : World} {F G r : Nat} {fa gb : List (EgM × EgM)} {seen : Array Nat} (h : SeeM.AW w F G r fa gb seen wx) : wx.iterSeen r = seen := by
  unfold World.iterSeen
  rw [h.iter]
theorem stEnts_same {l : List (EgM × EgM)} {s : Nat} {x y : MapEntry} (hx : x ∈ stEnts s l) (hy : y ∈ stEnts s l) (h : x.born = y.born) : x = y := by
  have hn := stEnts_born l s
  obtain ⟨i, hi, e1⟩ := List.mem_iff_getElem.1 hx
  obtain ⟨j, hj, e2⟩ := List.mem_iff_getElem.1 hy
  have h3 : ((stEnts s l).map (·.born))[i]'(by simpa using hi) = ((stEnts s l).map (·.born))[j]'(by simpa using hj) := by simp [e1, e2, h]
  have := (List.getElem_inj hn).1 h3
  subst this
  exact e1.symm.trans e2
theorem fst_same {l : List (EgM × EgM)} {k u v : EgM} (hn : (l.map Prod.fst).Nodup) (h1 : (k, u) ∈ l) (h2 : (k, v) ∈ l) : u = v := by
  obtain ⟨i, hi, e1⟩ := List.mem_iff_getElem.1 h1
  obtain ⟨j, hj, e2⟩ := List.mem_iff_getElem.1 h2
  have h3 : (l.map Prod.fst)[i]'(by simpa using hi) = (l.map Prod.fst)[j]'(by simpa using hj) := by simp [e1, e2]
  have := (List.getElem_inj hn).1 h3
  subst this
  have := e1.symm.trans e2
  injection this
end
section
open Go.RowKit Go.Lib Go.ChangeMaps

attribute [-go_sem] run_equalIn_agg in
set_option maxRecDepth 100000 in
set_option maxHeartbeats 16000000 in
theorem alike_any (a b : List OpM) (ao bo : Option Addr) (ca cb : Nat) (w : World) (h : OpsAt w ao a) (h' : OpsAt w bo b) (hf : RunM.Fits a) (hf' : RunM.Fits b) (hc : RunM.check a = 0) (hc' : RunM.check b = 0) (hna : ∀ o ∈ a, o.kind ≠ 4) (hnb : ∀ o ∈ b, o.kind ≠ 4) :
    Calls Try.prog 20 #[.slice ao a.length ca, .slice bo b.length cb] w fun e w' => e = .returned (.tuple #[.bool (SeeM.alike a b), .int .i64 0]) ∧ Below w.heap.size w w' := by
  have HCa := box (fun W (hb : Below w.heap.size w W) => runCheck_any a ao ca W (h.below hb (Nat.le_refl _)) hf)
  have HCb := box (fun W (hb : Below w.heap.size w W) => runCheck_any b bo cb W (h'.below hb (Nat.le_refl _)) hf')
  rw [hc] at HCa
  rw [hc'] at HCb
  have HVa := box (fun W (hb : Below w.heap.size w W) => view_any a ao ca W (h.below hb (Nat.le_refl _)) hf hc hna)
  have HVb := box (fun W (hb : Below w.heap.size w W) => view_any b bo cb W (h'.below hb (Nat.le_refl _)) hf' hc' hnb)
  clear h h' hf hf' hc hc' hna hnb
  have HAl : Box (SeeM.alike a b = ((List.range 20).all (fun it => decide (SeeM.lastN a it = SeeM.lastN b it)) && decide ((SeeM.view a).length = (SeeM.view b).length) && (SeeM.view a).all (fun p => decide (p ∈ SeeM.view b)))) := ⟨rfl⟩
  have HNd := box (SeeM.view_nodup b)
  obtain ⟨al, Hal⟩ : ∃ x, Box (SeeM.alike a b = x) := ⟨_, ⟨rfl⟩⟩
  rw [Hal.out] at HAl ⊢
  clear Hal
  have hlenE : ∀ f, (ETab f).toArray.size = 40 := fun f => by rw [List.size_toArray]; exact ETab_len f
  have HszE : Box (∀ f, (Try.prog.info? 94).map (·.size) = some (ETab f).toArray.size) := ⟨fun f => by rw [hlenE]; kernel_rfl⟩
  have HoneE : Box (∀ f, (ETab f).toArray.all (·.oneCell') = true) := ⟨fun f => all_oneCell_toArray (egVals_one _)⟩
  have HoldE : Box (∀ f (cs : Array Value), cs.size = 40 → cs.size = (ETab f).toArray.size) := ⟨fun f cs h => by rw [hlenE, h]⟩
  clear hlenE
  obtain ⟨fa, Hfa⟩ : ∃ x, Box (SeeM.lastN a = x) := ⟨_, ⟨rfl⟩⟩
  obtain ⟨fb, Hfb⟩ : ∃ x, Box (SeeM.lastN b = x) := ⟨_, ⟨rfl⟩⟩
  go_enter Try.func20, Try.ntmps20
  go_wp2_with fail
  refine (HCa.out w (Below.refl _ _)).mono ?_
  rintro e w1 ⟨rfl, hb1⟩
  have HB1 := box hb1
  clear hb1
  go_wp2_with fail
  refine (HCb.out w1 HB1.out).mono ?_
  rintro e w2 ⟨rfl, hb2⟩
  have HB2 := box (below_tr HB1.out hb2)
  clear hb2 HB1 HCa HCb
  go_wp2_with fail
  refine (HVa.out w2 HB2.out).mono ?_
  rintro e w3 ⟨hb3, F, rfl, hF, hm3⟩
  have HB3 := box (below_tr HB2.out hb3)
  have HM3 := box hm3
  have hs3 := HB3.out.size
  rw [Hfa.out]
  clear hb3 hm3 HB2 HVa
  go_upto_region 8 with (refine wpList_store_new rfl 94 (.tmp 9) (.tmp 30) rfl (ETab fa).toArray (by rfl) (by rfl) 94 _ (HszE.out fa) (HoldE.out fa _ rfl) (HoneE.out fa) ?_)
  refine name_world (fun W => Below w.heap.size w W ∧ StMap W F (SeeM.view a) ∧ Blk W w3.heap.size 94 (ETab fa)) ⟨HB3.out.alloc hs3 _, HM3.out.after ((Below.refl _ _).alloc (Nat.le_refl _) _), Blk.new w3 (ETab fa) _⟩ ?_
  rintro W4 ⟨hw4, hm4, hk4⟩
  have HW4 := box hw4; have HM4 := box hm4; have HK4 := box hk4
  clear hw4 hm4 hk4 HB3 HM3 hs3
  generalize w3.heap.size = EA at *
  go_wp2_with fail
  refine (HVb.out W4 HW4.out).mono ?_
  rintro e w5 ⟨hb5, G, rfl, hG, hm5⟩
  have HB5 := box (below_tr HW4.out hb5)
  have HM5 := box (HM4.out.after hb5)
  have HK5 := box (HK4.out.after hb5)
  have HG5 := box hm5
  have hs5 := HB5.out.size
  rw [Hfb.out]
  clear hb5 hm5 HW4 HM4 HK4 HVb
  go_upto_region 9 with (refine wpList_store_new rfl 94 (.tmp 11) (.tmp 35) rfl (ETab fb).toArray (by rfl) (by rfl) 94 _ (HszE.out fb) (HoldE.out fb _ rfl) (HoneE.out fb) ?_)
  refine name_world (fun W => Below w.heap.size w W ∧ StMap W F (SeeM.view a) ∧ Blk W EA 94 (ETab fa) ∧ StMap W G (SeeM.view b) ∧ Blk W w5.heap.size 94 (ETab fb)) ⟨HB5.out.alloc hs5 _, HM5.out.after ((Below.refl _ _).alloc (Nat.le_refl _) _), HK5.out.alloc _, HG5.out.after ((Below.refl _ _).alloc (Nat.le_refl _) _), Blk.new w5 (ETab fb) _⟩ ?_
  rintro W6 ⟨hw6, hm6, hk6, hg6, hl6⟩
  have HW6 := box hw6; have HM6 := box hm6; have HK6 := box hk6; have HG6 := box hg6; have HL6 := box hl6
  clear hw6 hm6 hk6 hg6 hl6 HB5 HM5 HK5 HG5 hs5
  generalize w5.heap.size = EB at *
  rw [Hfa.out, Hfb.out] at HAl
  have HEq := box (names_eq fa fb)
  obtain ⟨p, Hp⟩ : ∃ p, Box (((List.range 20).all fun i => decide (fa i = fb i)) = p) := ⟨_, ⟨rfl⟩⟩
  rw [Hp.out] at HEq HAl
  obtain ⟨la, Hla⟩ : ∃ x, Box ((SeeM.view a).length = x) := ⟨_, ⟨rfl⟩⟩
  obtain ⟨lb, Hlb⟩ : ∃ x, Box ((SeeM.view b).length = x) := ⟨_, ⟨rfl⟩⟩
  cases p with
  | false =>
    have hal : al = false := by rw [HAl.out]; rfl
    subst hal
    have heq := HEq.out
    go_wp2_with (first | (refine wpList_load_row rfl 94 (.tmp 9) rfl EA (by rfl) 94 _ (0, 0) _ HK6.out Try.underlying94 rfl (HszE.out fa) ?_) | (refine wpList_load_row rfl 94 (.tmp 11) rfl EB (by rfl) 94 _ (0, 0) _ HL6.out Try.underlying94 rfl (HszE.out fb) ?_))
    go_ret2
    exact ⟨rfl, HW6.out⟩
  | true =>
  have heq := HEq.out
  have hlF := HM6.out.len
  have hlG := HG6.out.len
  rw [Hla.out] at hlF
  rw [Hlb.out] at hlG
  rw [Hla.out, Hlb.out] at HAl
  by_cases hab : la = lb
  case neg =>
    have q : ((la : Int) != (lb : Int)) = true := by simpa using fun e : (la : Int) = lb => hab (by omega)
    have hal : al = false := by rw [HAl.out, decide_eq_false hab]; rfl
    subst hal
    clear hab
    go_wp2_with (first | (refine wpList_load_row rfl 94 (.tmp 9) rfl EA (by rfl) 94 _ (0, 0) _ HK6.out Try.underlying94 rfl (HszE.out fa) ?_) | (refine wpList_load_row rfl 94 (.tmp 11) rfl EB (by rfl) 94 _ (0, 0) _ HL6.out Try.underlying94 rfl (HszE.out fb) ?_))
    go_ret2
    exact ⟨rfl, HW6.out⟩
  have q : ((la : Int) != (lb : Int)) = false := by simp [hab]
  have HAl2 : Box (al = (SeeM.view a).all fun p => decide (p ∈ SeeM.view b)) := ⟨by rw [HAl.out, decide_eq_true hab]; rfl⟩
  clear hab HAl
  obtain ⟨va, Hva⟩ : ∃ x, Box (SeeM.view a = x) := ⟨_, ⟨rfl⟩⟩
  obtain ⟨vb, Hvb⟩ : ∃ x, Box (SeeM.view b = x) := ⟨_, ⟨rfl⟩⟩
  rw [Hva.out] at HM6 HAl2 Hla
  rw [Hvb.out] at HG6 HAl2 Hlb HNd
  have hrg := run_range_map (P := Try.prog) W6 91 93 93 F (stEnts 0 va).toArray va.length Try.underlying91 HM6.out
  go_wp2_with (first | (refine wpList_load_row rfl 94 (.tmp 9) rfl EA (by rfl) 94 _ (0, 0) _ HK6.out Try.underlying94 rfl (HszE.out fa) ?_) | (refine wpList_load_row rfl 94 (.tmp 11) rfl EB (by rfl) 94 _ (0, 0) _ HL6.out Try.underlying94 rfl (HszE.out fb) ?_))
  have HA7 : Box (SeeM.AW w F G W6.heap.size va vb #[] (W6.alloc (.mapIter (some F) va.length #[] va.length))) := ⟨⟨HW6.out.size, HW6.out.alloc HW6.out.size _, HM6.out.after ((Below.refl _ _).alloc (Nat.le_refl _) _), HG6.out.after ((Below.refl _ _).alloc (Nat.le_refl _) _), heap_alloc_new W6 _⟩⟩
  clear hrg heq hlF hlG q
  generalize W6.heap.size = r at *
  go_loopw [] (fun wx => ∃ seen : Array Nat, SeeM.AW w F G r va vb seen wx ∧ ∀ x ∈ stEnts 0 va, seen.contains x.born = true → ∃ p ∈ va, p ∈ vb ∧ x.key = nmV p.1 ∧ x.val = nmV p.2) (fun wx => (leftOf (stEnts 0 va).toArray (wx.iterSeen r)).size)
  case atStart => exact ⟨#[], HA7.out, fun x _ h => by simp at h⟩
  case round =>
    obtain ⟨seen, hA, hall⟩ := hrel
    clear HA7
    have HA := box hA; have HAll := box hall
    clear hA hall
    have law := run_next_at (P := Try.prog) wr 0 r F va.length va.length seen (stEnts 0 va).toArray va.length HA.out.iter HA.out.mapF (fun x hx => by have := (stEnts_mem (s := 0) (by simpa using hx)).2.1; omega) (Nat.le_refl _)
    rcases law with ⟨h0, hrun⟩ | ⟨e, he, w1, hw1, hrun⟩
    · have hnx : ∀ ty, (Instr.next (.pointer (some ⟨r, 0, none⟩)) false ty).run Try.prog wr = _ := fun _ => hrun
      have hal : al = true := by
        rw [HAl2.out, List.all_eq_true]
        intro p hp
        obtain ⟨x, hx, h1, h2⟩ := stEnts_has (s := 0) hp
        obtain ⟨p', hp', hpb, h3, h4⟩ := HAll.out x hx (all_seen _ seen h0 x (by simpa using hx))
        have e1 : nmV p.1 = nmV p'.1 := h1.symm.trans h3
        have e2 : nmV p.2 = nmV p'.2 := h2.symm.trans h4
        have inj : ∀ {u v : EgM}, nmV u = nmV v → u = v := by
          rintro ⟨u0, u1⟩ ⟨v0, v1⟩ h
          simp [nmV] at h
          rw [h.1, h.2]
        have : p = p' := Prod.ext (inj e1) (inj e2)
        rw [this]; exact decide_eq_true hpb
      subst hal
      clear hrun h0
      go_wp2_with fail
      go_ret2
      exact ⟨rfl, HA.out.below⟩
    · have hml := mem_left he
      have hein : e ∈ stEnts 0 va := by simpa using hml.1
      obtain ⟨_, _, ⟨⟨k0, k1⟩, ⟨v0, v1⟩⟩, hpv, hkey, hval⟩ := stEnts_mem hein
      have HT := box (HA.out.turn (seen.push e.born) hw1)
      have HSh := box (left_shrinks _ _ _ he)
      have HSn := box HA.out.seen
      have hent := run_entry_at (P := Try.prog) _ r F va.length (seen.push e.born).pop (stEnts 0 va).toArray va.length e (by simpa using HT.out.iter) HT.out.mapF hml.1 (by simpa using stEnts_born va 0)
      rw [hkey, hval] at hrun hent
      obtain ⟨W7, HW7⟩ : ∃ W7, Box (setBlock w1 r (.mapIter (some F) va.length (seen.push e.born) va.length) = W7) := ⟨_, ⟨rfl⟩⟩
      rw [HW7.out] at hrun hent HT
      have HStep : Box (∀ x ∈ stEnts 0 va, (seen.push e.born).contains x.born = true → ((⟨k0, k1⟩, ⟨v0, v1⟩) : EgM × EgM) ∈ vb → ∃ p ∈ va, p ∈ vb ∧ x.key = nmV p.1 ∧ x.val = nmV p.2) := ⟨fun x hx hc hb => by
        rw [contains_push] at hc
        rcases Bool.or_eq_true_iff.1 hc with h | h
        · exact HAll.out x hx h
        · have := stEnts_same hx hein (by simpa using h)
          rw [this]
          exact ⟨_, hpv, hb, hkey, hval⟩⟩
      have HNo : Box (((⟨k0, k1⟩, ⟨v0, v1⟩) : EgM × EgM) ∉ vb → al = false) := ⟨fun h => by
        rw [HAl2.out, List.all_eq_false]
        exact ⟨_, hpv, by simpa using h⟩⟩
      clear hw1 hml hein hkey hval HAll HA HW7 he
      unfold nmV at hrun hent
      have hnx : ∀ ty, (Instr.next (.pointer (some ⟨r, 0, none⟩)) false ty).run Try.prog wr = _ := fun _ => hrun
      go_upto_region 14 with (fail)
      refine name_world (fun W => SeeM.AW w F G r va vb (seen.push e.born) W ∧ Blk W W7.heap.size 93 [.int .i64 k0, .int .i64 k1] ∧ Blk W (W7.heap.size + 1) 93 [.int .i64 v0, .int .i64 v1]) ⟨HT.out.after (((Below.refl _ _).alloc (Nat.le_refl _) _).alloc (by simp) _), (Blk.new W7 [.int .i64 k0, .int .i64 k1] _).alloc _, Blk.new' (by simp) [.int .i64 v0, .int .i64 v1] _⟩ ?_
      rintro W8 ⟨hA8, hk8, hv8⟩
      have HA8 := box hA8
      have a0 := hk8.cell (i := 0) rfl
      have a1 := hk8.cell (i := 1) rfl
      have b0 := hv8.cell (i := 0) rfl
      have b1 := hv8.cell (i := 1) rfl
      have HK8 := box hk8; have HV8 := box hv8
      have hlook := hA8.mapG.lookup (k := ⟨k0, k1⟩)
      clear hA8 hk8 hv8 hrun hent hnx HT
      generalize W7.heap.size = X at *
      by_cases hin : ∃ u, ((⟨k0, k1⟩ : EgM), u) ∈ vb
      case neg =>
        have hno : ∀ p ∈ vb, (⟨k0, k1⟩ : EgM) ≠ p.1 := fun p hp e => hin ⟨p.2, by rw [e]; exact hp⟩
        rw [stLook_none hno] at hlook
        have hal := HNo.out (fun h => hin ⟨_, h⟩)
        subst hal
        unfold nmV at hlook
        clear hno hin
        go_wp2_with fail
        go_ret2
        exact ⟨rfl, HA8.out.below.alloc HA8.out.below.size _⟩
      obtain ⟨⟨u0, u1⟩, hu⟩ := hin
      obtain ⟨j, hj⟩ := stLook_some (i := 0) HNd.out hu
      rw [hj] at hlook
      have HEq2 := box (nm_eq ⟨v0, v1⟩ ⟨u0, u1⟩)
      unfold nmV at hlook HEq2
      go_upto_region 15 with (fail)
      refine name_world (fun W => SeeM.AW w F G r va vb (seen.push e.born) W ∧ Blk W (X + 1) 93 [.int .i64 v0, .int .i64 v1] ∧ Blk W W8.heap.size 93 [.int .i64 u0, .int .i64 u1]) ⟨HA8.out.after ((Below.refl _ _).alloc (Nat.le_refl _) _), HV8.out.alloc _, Blk.new _ _ _⟩ ?_
      rintro W9 ⟨hA9, hv9, hu9⟩
      have HA9 := box hA9
      have c0 := hv9.cell (i := 0) rfl
      have c1 := hv9.cell (i := 1) rfl
      have d0 := hu9.cell (i := 0) rfl
      have d1 := hu9.cell (i := 1) rfl
      clear hA9 hv9 hu9 hlook a0 a1 b0 b1 HA8 HK8 HV8
      generalize W8.heap.size = Y at *
      have heq2 := HEq2.out
      by_cases hvu : (⟨v0, v1⟩ : EgM) = ⟨u0, u1⟩
      case neg =>
        have hal := HNo.out (fun h => hvu (fst_same HNd.out h hu))
        subst hal
        rw [decide_eq_false hvu] at heq2
        clear hvu hj hu
        go_wp2_with fail
        go_ret2
        exact ⟨rfl, HA9.out.below⟩
      rw [decide_eq_true hvu] at heq2
      have HIn : Box (((⟨k0, k1⟩, ⟨v0, v1⟩) : EgM × EgM) ∈ vb) := ⟨by rw [hvu]; exact hu⟩
      clear hvu hj hu
      go_wp2_with fail
      go_roundw
      case rel => exact ⟨seen.push e.born, HA9.out, fun x hx hc => HStep.out x hx hc HIn.out⟩
      case measure =>
        rw [HSn.out, HA9.out.seen]
        exact HSh.out
end
end Go.Proofs.Ytnhhjjhhicmfpaa
