/- order.Deps: what it answers. -/
import Derived.Test.YtgkclgmekbgjmaaStoC
import Derived.Test.YtgkclgmekbgjmaaDepS
import Derived.Test.YtgkclgmekbgjmaaDepK
import Derived.Test.YtgkclgmekbgjmaaDepL
import Derived.Test.YtgkclgmekbgjmaaIntIdx
namespace Go.Proofs.Ytgkclgmekbgjmaa
open Go.RowKit Go.Lib

/-- What order.Deps answers. -/
def StoL.DepsPost (s : StoL) (w : World) (e : Ending) (w' : World) : Prop :=
  Below w.heap.size w w' ∧ ((¬ s.Ok ∧ ∃ c : Int, c ≠ 0 ∧ c ≠ 11 ∧ e = .returned (.tuple #[.slice none 0 0, .int .i64 c])) ∨
    (s.Ok ∧ ∃ v, e = .returned (.tuple #[v, .int .i64 0]) ∧ w'.ownsRow w.heap.size 106 3 v s.told.length (dpVals s.told)))
/-- In its loops. -/
structure StoL.DW (w : World) (s : StoL) (X : Nat) (l : List DepM) (wx : World) : Prop where
  dep : DepIn w X l wx
  blk : Blk wx w.heap.size 25 s.cells
theorem StoL.DW.after {w wx wy : World} {s : StoL} {X : Nat} {l : List DepM} (h : StoL.DW w s X l wx) (hb : Below wx.heap.size wx wy) : StoL.DW w s X l wy := ⟨h.dep.after hb, h.blk.after hb⟩
theorem StoL.DW.drew {w wx : World} {s : StoL} {X : Nat} {l : List DepM} (h : StoL.DW w s X l wx) (n : Nat) : StoL.DW w s X l (wx.drewN n) := h.after ⟨rfl, rfl, rfl, Nat.le_refl _, fun _ _ => rfl⟩
theorem StoL.DW.alloc {w wx : World} {s : StoL} {X : Nat} {l : List DepM} (h : StoL.DW w s X l wx) (o : Obj) : StoL.DW w s X l (wx.alloc o) := h.after ((Below.refl _ _).alloc (Nat.le_refl _) o)
theorem DepM.add_len (f t k : Int) : (DepM.add f t k).length ≤ 1 := by
  unfold DepM.add; split <;> simp
theorem DepM.row_len (l : List Int) (m : Nat) : (DepM.row l m).length ≤ m := by
  induction m with
  | zero => simp [DepM.row]
  | succ m ih => rw [DepM.row_succ, List.length_append]; have := DepM.add_len l[m]! l[m + 1]! 1; omega
theorem StoL.Ok.short {s : StoL} (h : s.Ok) {k : Nat} (hk : k < s.vrs.length) : (s.vrs[k]!).vs.length ≤ 12 := by
  have h1 : ((s.vrs[k]!).vs.map Int.toNat).Nodup := by
    rw [List.nodup_iff_pairwise_ne, List.pairwise_map]
    refine List.Pairwise.imp_of_mem ?_ (List.nodup_iff_pairwise_ne.1 (h.wrNodup hk))
    intro a b ha hb hne he
    obtain ⟨t, ht, rfl⟩ := h.wr hk ha
    obtain ⟨u, hu, rfl⟩ := h.wr hk hb
    have := h.tx ht; have := h.tx hu
    omega
  have h2 := List.Nodup.length_le_of_subset h1 (l₂ := List.range 12) (fun y hy => by
    obtain ⟨x, hx, rfl⟩ := List.mem_map.1 hy
    obtain ⟨t, ht, rfl⟩ := h.wr hk hx
    have := h.tx ht
    rw [List.mem_range]; omega)
  simpa using h2
theorem StoL.rows_len {s : StoL} (h : s.Ok) : ∀ k, k ≤ s.vrs.length → (s.rows k).length ≤ 12 * k
  | 0, _ => by simp [StoL.rows]
  | k + 1, hk => by
    rw [StoL.rows_succ, List.length_append]
    have := StoL.rows_len h k (by omega)
    have := DepM.row_len (s.vrs[k]!).vs ((s.vrs[k]!).vs.length - 1)
    have := h.short (k := k) (by omega)
    omega
theorem StoL.tale_len (s : StoL) (t : TaleL) (q : Nat) : (s.tale t q).length ≤ 2 * q := by
  induction q with
  | zero => simp [StoL.tale]
  | succ q ih =>
    rw [StoL.tale_succ, List.length_append]
    have h1 : (DepM.got s t.tx t.gs[q]!).length ≤ 2 := by
      unfold DepM.got DepM.next
      rw [List.length_append]
      have h0 := DepM.add_len (t.gs[q]!).to_ t.tx 2
      split
      · have := DepM.add_len t.tx ((s.vrs[(t.gs[q]!).frm.toNat]!).vs[(IntsM.idx (s.vrs[(t.gs[q]!).frm.toNat]!).vs (t.gs[q]!).to_ + 1).toNat]!) 3; omega
      · rw [List.length_nil]; omega
    omega
theorem StoL.tales_len {s : StoL} (h : ∀ t ∈ s.tls, t.gs.length ≤ 1048576) : ∀ k, k ≤ s.tls.length → (s.tales k).length ≤ 2097152 * k
  | 0, _ => by simp [StoL.tales]
  | k + 1, hk => by
    rw [StoL.tales_succ, List.length_append]
    have := StoL.tales_len h k (by omega)
    have := s.tale_len (s.tls[k]!) (s.tls[k]!).gs.length
    have h2 : (s.tls[k]!).gs.length ≤ 1048576 := by rw [getElem!_pos s.tls k (by omega)]; exact h _ (List.getElem_mem _)
    omega

set_option maxRecDepth 20000 in
set_option maxHeartbeats 16000000 in
theorem orderDeps_any (s : StoL) (w : World) (h : StoAt w s) (hsm : ∀ t ∈ s.tls, t.gs.length ≤ 1048576) :
    Calls Try.prog 44 #[.agg #[.slice s.ta s.tls.length s.tc, .slice s.ra s.vrs.length s.rc]] w (s.DepsPost w) := by
  have H := box h; have HSm := box hsm
  clear h hsm
  have HPost : Box (∀ (e : Ending) (w' : World) (c : Int), Below w.heap.size w w' → ¬ s.Ok → c ≠ 0 → c ≠ 11 → e = .returned (.tuple #[.slice none 0 0, .int .i64 c]) → s.DepsPost w e w') := ⟨fun e w' c h1 h2 h3 h4 h5 => ⟨h1, Or.inl ⟨h2, c, h3, h4, h5⟩⟩⟩
  have HPost2 : Box (∀ (w' : World) (v : Value), Below w.heap.size w w' → s.Ok → w'.ownsRow w.heap.size 106 3 v s.told.length (dpVals s.told) → s.DepsPost w (.returned (.tuple #[v, .int .i64 0])) w') := ⟨fun w' v h1 h2 h3 => ⟨h1, Or.inr ⟨h2, v, rfl, h3⟩⟩⟩
  have HCk := box (fun wx (h : StoAt wx s) => orderCheck_any s wx h)
  obtain ⟨Post, HP⟩ : ∃ P, Box (s.DepsPost w = P) := ⟨_, ⟨rfl⟩⟩
  rw [HP.out] at HPost HPost2 ⊢
  clear HP
  obtain ⟨CW, HCW⟩ : ∃ P, Box (StoL.CkW w s = P) := ⟨_, ⟨rfl⟩⟩
  have HCW2 : Box (∀ wx, CW wx ↔ (Below w.heap.size w wx ∧ Blk wx w.heap.size 25 [.slice s.ta s.tls.length s.tc, .slice s.ra s.vrs.length s.rc])) := ⟨by rw [← HCW.out]; exact fun wx => ⟨fun h => ⟨h.below, h.blk⟩, fun h => ⟨h.1, h.2⟩⟩⟩
  obtain ⟨n, HN⟩ : ∃ n, Box (s.tls.length = n) := ⟨_, ⟨rfl⟩⟩
  obtain ⟨m, HM⟩ : ∃ m, Box (s.vrs.length = m) := ⟨_, ⟨rfl⟩⟩
  rw [HN.out, HM.out] at HCW2 HCk ⊢
  have hn9 := H.out.tn.1
  have hm9 := H.out.tn.2
  rw [HN.out] at hn9
  rw [HM.out] at hm9
  go_enter Try.func44, Try.ntmps44
  go_upto_region 1 with (fail)
  refine name_world (fun W => CW W) ((HCW2.out _).2 ⟨(Below.refl _ _).alloc (Nat.le_refl _) _, Blk.new _ _ _⟩) ?_
  intro W0 hW0
  have HW := box hW0
  have hk := ((HCW2.out _).1 hW0).2
  have p0 := hk.cell (i := 0) rfl
  have p1 := hk.cell (i := 1) rfl
  clear hW0 hk
  go_wp2_with fail
  refine (HCk.out _ (H.out.below ((HCW2.out _).1 HW.out).1 (Nat.le_refl _))).mono ?_
  rintro e w1 ⟨hb, c, rfl, hc, hc11⟩
  have HCW1 : Box (CW w1) := ⟨(HCW2.out _).2 ⟨below_tr ((HCW2.out _).1 HW.out).1 hb, ((HCW2.out _).1 HW.out).2.after hb⟩⟩
  have HC := box hc; have HC11 := box hc11
  clear hb hc hc11 p0 p1 HW
  by_cases hc0 : c = 0
  case neg =>
    have q1 : (c == 0) = false := by simpa using hc0
    have q2 : (c != 0) = true := by simpa using hc0
    have HNo : Box (¬ s.Ok ∧ c ≠ 0) := ⟨fun h => hc0 (HC.out.2 h), hc0⟩
    clear hc0
    go_wp2_with fail
    exact HPost.out _ _ c ((HCW2.out _).1 HCW1.out).1 HNo.out.1 HNo.out.2 HC11.out rfl
  subst hc0
  have HOk : Box s.Ok := ⟨HC.out.1 rfl⟩
  clear HC HC11
  go_upto_region 6 with (fail)
  refine name_world (fun W => StoL.DW w s w1.heap.size (s.rows 0) W) ⟨⟨((HCW2.out _).1 HCW1.out).1.alloc ((HCW2.out _).1 HCW1.out).1.size _, ((HCW2.out _).1 HCW1.out).1.size, _, Blk.new w1 [.slice none 0 0] _, World.ownsRow_nil _ _ _ _⟩, by have := ((HCW2.out _).1 HCW1.out).2.alloc (.cells #[.slice none 0 0] 102); rw [← HN.out, ← HM.out] at this; exact this⟩ ?_
  generalize w1.heap.size = X at *
  intro W2 hW2
  obtain ⟨D, HD⟩ : ∃ D : List DepM → World → Prop, Box (StoL.DW w s X = D) := ⟨_, ⟨rfl⟩⟩
  rw [HD.out] at hW2
  have HD2 : Box (∀ l wx, D l wx → Below w.heap.size w wx ∧ DepIn w X l wx ∧ Blk wx w.heap.size 25 [.slice s.ta n s.tc, .slice s.ra m s.rc]) := ⟨by rw [← HD.out, ← HN.out, ← HM.out]; exact fun l wx h => ⟨h.dep.below, h.dep, h.blk⟩⟩
  have HDa : Box (∀ l wx wy, D l wx → Below wx.heap.size wx wy → D l wy) := ⟨by rw [← HD.out]; exact fun l wx wy h hb => h.after hb⟩
  have HAdd : Box (∀ f t k l wx, D l wx → l.length ≤ 100000000 → Calls Try.prog 95 #[.int .i64 f, .int .i64 t, .int .i64 k, .pointer (some ⟨X, 0, none⟩)] wx fun e w' => e = .returned (.tuple #[]) ∧ D (l ++ DepM.add f t k) w' ∧ wx.heap.size ≤ w'.heap.size ∧ ∀ b t C, t ≠ 102 → t ≠ 106 → Blk wx b t C → Blk w' b t C) := ⟨by
    rw [← HD.out]
    intro f t k l wx h hl
    refine (depAdd_any f t k w X l wx h.dep hl).mono ?_
    rintro e w' ⟨h1, h2, h3, h4⟩
    exact ⟨h1, ⟨h2, h4 _ _ _ (by decide) (by decide) h.blk⟩, h3, h4⟩⟩
  have HDf : Box (∀ l wx, D l wx → StoL.DW w s X l wx) := ⟨by rw [← HD.out]; exact fun l wx h => h⟩
  have HW2 := box hW2
  have s1 := ((HD2.out _ _ hW2).2.2).cell (i := 1) rfl
  clear HD hW2 HCW HCW1 HCW2 HCk
  have HRl := box (fun k hk => StoL.rows_len HOk.out (s := s) k hk)
  have HTl := box (StoL.tales_len HSm.out)
  go_wp2_with fail
  go_loopw [25] (fun t25 wx => ∃ k : Nat, k ≤ m ∧ t25 = .int .i64 (k : Int) ∧ Box (D (s.rows k) wx)) (fun t25 _ => m - (RowKit.intOf t25).toNat)
  case atStart => exact ⟨0, Nat.zero_le _, rfl, HW2⟩
  case round =>
    obtain ⟨k, hk, rfl, HDk⟩ := hrel
    clear HW2 s1
    by_cases hkt : k < m
    · have hkl : k < s.vrs.length := by rw [HM.out]; exact hkt
      have hst := H.out.below (HD2.out _ _ HDk.out).1 (Nat.le_refl _)
      obtain ⟨rb, roff, hra, _, hrow⟩ := hst.vr.resolve_left (by intro h; rw [h] at hkl; simp at hkl)
      have c0 := hrow k hkl
      have HIv : Box (∀ wx, Below w.heap.size w wx → IntsAt wx s.vrs[k].va s.vrs[k].vs) := ⟨fun wx hb => (H.out.below hb (Nat.le_refl _)).vs _ (List.getElem_mem hkl)⟩
      have Hv : Box (s.vrs[k]! = s.vrs[k]) := ⟨getElem!_pos s.vrs k hkl⟩
      have hsh := HOk.out.short hkl
      have HRs := box (s.rows_succ k)
      have hrl := HRl.out k (by have := HM.out; omega)
      rw [Hv.out] at HRs hsh
      rw [hra] at *
      generalize s.vrs[k] = V at *
      obtain ⟨va, vc, vs⟩ := V
      simp only at c0 HIv HRs hsh
      obtain ⟨vl, HVL⟩ : ∃ vl, Box (vs.length = vl) := ⟨_, ⟨rfl⟩⟩
      rw [HVL.out] at c0 HRs hsh
      have hm20 := HOk.out.2.1
      rw [HM.out] at hm20
      clear hrow hst Hv
      have hd1 : Box (DepM.row vs 0 = []) := ⟨rfl⟩
      go_wp2_with fail
      go_loopw [9] (fun t9 wx => ∃ i : Nat, 1 ≤ i ∧ (i = 1 ∨ i ≤ vl) ∧ t9 = .int .i64 (i : Int) ∧ Box (D (s.rows k ++ DepM.row vs (i - 1)) wx)) (fun t9 _ => vl - (RowKit.intOf t9).toNat)
      case atStart => exact ⟨1, Nat.le_refl _, Or.inl rfl, rfl, ⟨by rw [show 1 - 1 = 0 from rfl, hd1.out, List.append_nil]; exact HDk.out⟩⟩
      case round =>
        obtain ⟨i, hi1, hi2, rfl, HDi⟩ := hrel
        clear HDk c0
        by_cases hit : i < vl
        · have hil : i < vs.length := by rw [HVL.out]; exact hit
          obtain ⟨vb, voff, hva, hvb, hvrow⟩ := (HIv.out _ (HD2.out _ _ HDi.out).1).resolve_left (by intro h; rw [h] at hil; simp at hil)
          subst hva
          have a0 := hvrow (i - 1) (by omega)
          have a1 := hvrow i hil
          have Hx : Box (vs[i - 1]! = vs[i - 1]) := ⟨getElem!_pos vs (i - 1) (by omega)⟩
          have Hy : Box (vs[i]! = vs[i]) := ⟨getElem!_pos vs i hil⟩
          have HRw := box (DepM.row_succ vs (i - 1))
          rw [show i - 1 + 1 = i by omega, Hx.out, Hy.out] at HRw
          have hwr : IntKind.i64.wrap ((i : Int) - 1) = ((i - 1 : Nat) : Int) := by
            rw [IntWalk.i64_in _ (by omega)]; omega
          have htn : ((i : Int) - 1).toNat = i - 1 := by omega
          have hge : (0 : Int) ≤ (i : Int) - 1 := by omega
          have hltn : (i : Int) - 1 < (vl : Int) := by omega
          have hi1l : i - 1 < vl := by omega
          have hrw := DepM.row_len vs (i - 1)
          have HCa : Box (∀ wx, D (s.rows k ++ DepM.row vs (i - 1)) wx → _) := box (fun wx h => HAdd.out vs[i - 1] vs[i] 1 _ wx h (by rw [List.length_append]; omega))
          have HXY : Box (∀ wx, Below w.heap.size w wx → wx.cell? ⟨vb, voff + (i - 1), none⟩ = some (.int .i64 vs[i - 1]) ∧ wx.cell? ⟨vb, voff + i, none⟩ = some (.int .i64 vs[i])) := ⟨fun wx hb => by
            obtain ⟨vb2, voff2, he, _, h2⟩ := (HIv.out _ hb).resolve_left (by intro h; rw [h] at hil; simp at hil)
            injection he with he
            injection he with he1 he2
            subst he1; subst he2
            exact ⟨h2 (i - 1) (by omega), h2 i hil⟩⟩
          have hDd : ∀ q, D (s.rows k ++ DepM.row vs (i - 1)) (wr.drewN q) := fun q => HDa.out _ _ _ HDi.out ⟨rfl, rfl, rfl, Nat.le_refl _, fun _ _ => rfl⟩
          have HDd := box hDd
          clear hDd
          generalize vs[i - 1] = x at *
          generalize vs[i] = y at *
          clear hvrow hrw Hx Hy
          go_wp2_with fail
          go_region_held3 (fun w' => w'.cell? ⟨vb, voff + (i - 1), none⟩ = some (.int .i64 x) ∧ w'.cell? ⟨vb, voff + i, none⟩ = some (.int .i64 y)) (first | exact ⟨a0, a1⟩ | assumption) (first
            | (go_at_call 95; refine (HCa.out _ (HDd.out 1)).mono ?_; rintro e w9 ⟨rfl, hd9, hs9, hb9⟩; have HD9 := box hd9; have hS9 := HXY.out w9 (HD2.out _ _ hd9).1; clear hd9 hs9 hb9))
          clear a0 a1 hwr htn hge hltn hS9
          go_wp2_with fail
          go_roundw
          case rel => exact ⟨i + 1, by omega, Or.inr (by omega), by go_num, ⟨by rw [Nat.add_sub_cancel, HRw.out, ← List.append_assoc]; exact HD9.out⟩⟩
          case measure => simp [RowKit.intOf]; omega
        · have HDn : Box (D (s.rows (k + 1)) wr) := ⟨by
            rw [HRs.out]
            have h1 : i - 1 = vl - 1 := by omega
            rw [← h1]; exact HDi.out⟩
          clear HDi
          go_wp2_with fail
          go_roundw
          case rel => exact ⟨k + 1, by omega, by go_num, HDn⟩
          case measure => simp [RowKit.intOf]; omega
    · have HR : Box (D (s.rows s.vrs.length ++ s.tales 0) wr) := ⟨by
        have h1 : k = s.vrs.length := by rw [HM.out]; omega
        rw [show s.tales 0 = [] from rfl, List.append_nil, ← h1]; exact HDk.out⟩
      have hRl : (s.rows s.vrs.length).length ≤ 240 := by
        have := HRl.out s.vrs.length (Nat.le_refl _)
        have := HOk.out.2.1
        omega
      have hn12 := HOk.out.1
      rw [HN.out] at hn12
      obtain ⟨R, HRe⟩ : ∃ R, Box (s.rows s.vrs.length = R) := ⟨_, ⟨rfl⟩⟩
      rw [HRe.out] at HR hRl
      have s0 := ((HD2.out _ _ HR.out).2.2).cell (i := 0) rfl
      clear HDk HRl
      go_wp2_with fail
      go_loopw [50] (fun t50 wx => ∃ k : Nat, k ≤ n ∧ t50 = .int .i64 (k : Int) ∧ Box (D (R ++ s.tales k) wx)) (fun t50 _ => n - (RowKit.intOf t50).toNat)
      case atStart => exact ⟨0, Nat.zero_le _, rfl, HR⟩
      case round =>
        obtain ⟨k, hk, rfl, HDk⟩ := hrel
        clear HR s0
        by_cases hkt : k < n
        · have hkl : k < s.tls.length := by rw [HN.out]; exact hkt
          have hst := H.out.below (HD2.out _ _ HDk.out).1 (Nat.le_refl _)
          obtain ⟨tb, toff, hta, _, hrow⟩ := hst.tl.resolve_left (by intro h; rw [h] at hkl; simp at hkl)
          obtain ⟨c0, c1⟩ := hrow k hkl
          have HGs : Box (∀ wx, Below w.heap.size w wx → EgsAt wx s.tls[k].ga s.tls[k].gs) := ⟨fun wx hb => (H.out.below hb (Nat.le_refl _)).gs _ (List.getElem_mem hkl)⟩
          have Hv : Box (s.tls[k]! = s.tls[k]) := ⟨getElem!_pos s.tls k hkl⟩
          have hgl := HSm.out _ (List.getElem_mem hkl)
          have HTs := box (s.tales_succ k)
          have htl := HTl.out k (by omega)
          have HTt := box (s.tale_succ s.tls[k])
          have HTn := box (s.tale_len s.tls[k])
          have HG := box (fun g hg => HOk.out.got (List.getElem_mem hkl) (g := g) hg)
          have htx := HOk.out.tx (List.getElem_mem hkl)
          rw [Hv.out] at HTs
          rw [hta] at *
          obtain ⟨T, HTe⟩ : ∃ T, Box (s.tls[k] = T) := ⟨_, ⟨rfl⟩⟩
          rw [HTe.out] at c0 c1 HGs hgl HTs HTt HTn HG htx
          obtain ⟨tx, ga, gc, gs⟩ := T
          simp only at c0 c1 HGs hgl HTt HTn HG htx
          obtain ⟨TA, HTA⟩ : ∃ TA, Box (s.tale ⟨tx, ga, gc, gs⟩ = TA) := ⟨_, ⟨rfl⟩⟩
          rw [HTA.out] at HTs HTt HTn
          have HT0 : Box (TA 0 = []) := ⟨by rw [← HTA.out]; rfl⟩
          obtain ⟨gl, HGL⟩ : ∃ gl, Box (gs.length = gl) := ⟨_, ⟨rfl⟩⟩
          simp only at HTs
          rw [HGL.out] at c1 hgl HTs
          clear hrow hst Hv HTe
          go_upto_region 17 with (fail)
          clear hta
          refine name_world (fun W => D (R ++ s.tales k) W ∧ Blk W wr.heap.size 30 [.int .i64 tx, .slice ga gl gc]) ⟨HDa.out _ _ _ HDk.out ((Below.refl _ _).alloc (Nat.le_refl _) _), Blk.new _ _ _⟩ ?_
          generalize wr.heap.size = A at *
          rintro W3 ⟨hd3, hk3⟩
          have HD3 := box hd3; have HK3 := box hk3
          have t1 := hk3.cell (i := 1) rfl
          clear hd3 hk3 c0 c1 HDk
          go_wp2_with fail
          go_loopw [57] (fun t57 wx => ∃ q : Nat, q ≤ gl ∧ t57 = .int .i64 (q : Int) ∧ Box (D (R ++ s.tales k ++ TA q) wx ∧ Blk wx A 30 [.int .i64 tx, .slice ga gl gc])) (fun t57 _ => gl - (RowKit.intOf t57).toNat)
          case atStart => exact ⟨0, Nat.zero_le _, rfl, ⟨by rw [HT0.out, List.append_nil]; exact HD3.out, HK3.out⟩⟩
          case round =>
            obtain ⟨q, hq, rfl, HDq⟩ := hrel
            clear HD3 HK3 t1
            by_cases hqt : q < gl
            · have hql : q < gs.length := by rw [HGL.out]; exact hqt
              obtain ⟨gb, goff, hga, hgb, hgrow⟩ := (HGs.out _ (HD2.out _ _ HDq.out.1).1).resolve_left (by intro h; rw [h] at hql; simp at hql)
              obtain ⟨e0, e1⟩ := hgrow q hql
              have HTq := box (HTt.out q)
              have hTl := HTn.out q
              have hgq : gs[q]! = gs[q] := getElem!_pos gs q hql
              rw [hgq] at HTq
              have hok := HG.out _ (List.getElem_mem hql)
              subst hga
              generalize gs[q] = g at *
              obtain ⟨gi, gf⟩ := g
              simp only at e0 e1
              obtain ⟨hok0, hok1, hok2, hok3⟩ := hok
              simp only at hok0 hok1 hok2 hok3
              obtain ⟨v, hvv⟩ := Int.eq_ofNat_of_zero_le hok0
              have hvl : v < s.vrs.length := by omega
              have HGot : Box (DepM.got s tx ⟨gi, gf⟩ = DepM.add gf tx 2 ++ DepM.next tx (s.vrs[v]!).vs gf) := ⟨by unfold DepM.got; simp only [hvv, Int.toNat_natCast]⟩
              rw [HGot.out] at HTq
              have Hv : Box (s.vrs[v]! = s.vrs[v]) := ⟨getElem!_pos s.vrs v hvl⟩
              have hvr := (H.out.below (HD2.out _ _ HDq.out.1).1 (Nat.le_refl _)).vr
              obtain ⟨rb, roff, hra, _, hrow⟩ := hvr.resolve_left (by intro h; rw [h] at hvl; simp at hvl)
              have HRc : Box (∀ wx, Below w.heap.size w wx → wx.cell? ⟨rb, roff + v, none⟩ = some (.slice s.vrs[v].va s.vrs[v].vs.length s.vrs[v].vc)) := ⟨fun wx hb => by
                obtain ⟨rb2, roff2, he, _, h2⟩ := ((H.out.below hb (Nat.le_refl _)).vr).resolve_left (by intro h; rw [h] at hvl; simp at hvl)
                rw [hra] at he
                injection he with he
                injection he with he1 he2
                subst he1; subst he2
                exact h2 v hvl⟩
              have HIv : Box (∀ wx, Below w.heap.size w wx → IntsAt wx s.vrs[v].va s.vrs[v].vs) := ⟨fun wx hb => (H.out.below hb (Nat.le_refl _)).vs _ (List.getElem_mem hvl)⟩
              have hsh := HOk.out.short hvl
              have hvm : v < m := by have := HM.out; omega
              rw [Hv.out] at HTq hsh
              have HRa := box hra
              generalize s.vrs[v] = V at *
              obtain ⟨va, vc, vs⟩ := V
              simp only at HRc HIv HTq hsh
              obtain ⟨vl, HVL⟩ : ∃ vl, Box (vs.length = vl) := ⟨_, ⟨rfl⟩⟩
              rw [HVL.out] at HRc hsh
              subst hvv
              clear hgrow hok0 hok1 hok2 hok3 hvr hrow hgq hra Hv HGot
              go_upto_region 20 with (fail)
              refine name_world (fun W => D (R ++ s.tales k ++ TA q) W ∧ Blk W A 30 [.int .i64 tx, .slice (some ⟨gb, goff, none⟩) gl gc] ∧ Blk W wr.heap.size 27 [.int .i64 (v : Int), .int .i64 gf]) ⟨HDa.out _ _ _ HDq.out.1 ((Below.refl _ _).alloc (Nat.le_refl _) _), HDq.out.2.alloc _, Blk.new _ _ _⟩ ?_
              generalize wr.heap.size = C at *
              rintro W4 ⟨hd4, hk4, hg4⟩
              have HD4 := box hd4; have HK4 := box hk4; have HG4 := box hg4
              have t0 := hk4.cell (i := 0) rfl
              have g1 := hg4.cell (i := 1) rfl
              clear hd4 hk4 hg4 e0 e1 HDq
              go_wp2_with fail
              refine (HAdd.out gf tx 2 _ W4 HD4.out (by rw [List.length_append, List.length_append]; omega)).mono ?_
              rintro e w5 ⟨rfl, hd5, hs5, hb5⟩
              have HK5 := box (hb5 A _ _ (by decide) (by decide) HK4.out)
              have HG5 := box (hb5 C _ _ (by decide) (by decide) HG4.out)
              have HD5 := box hd5
              have g0 := HG5.out.cell (i := 0) rfl
              have g1 := HG5.out.cell (i := 1) rfl
              have s1 := ((HD2.out _ _ hd5).2.2).cell (i := 1) rfl
              rw [HRa.out] at s1
              have r0 := HRc.out _ (HD2.out _ _ hd5).1
              have hvmi : (v : Int) < (m : Int) := by omega
              clear hd5 hs5 hb5 HD4 HK4 HG4 t0
              obtain ⟨I, HI⟩ : ∃ I, Box (IntsM.idx vs gf = I) := ⟨_, ⟨rfl⟩⟩
              have hI : 0 ≤ I + 1 ∧ I + 1 ≤ vl := by
                rw [← HI.out]
                unfold IntsM.idx IntsM.find
                have := HVL.out
                split <;> omega
              have HIx := box (index_ints vs gf va vc w5 (HIv.out _ (HD2.out _ _ HD5.out).1) (by have := HVL.out; omega))
              rw [HVL.out, HI.out] at HIx
              have hI1 : -1 ≤ I := by omega
              have hI2 : I ≤ 12 := by omega
              have HNx : Box (DepM.next tx vs gf = if (I + 1).toNat < vl then DepM.add tx vs[(I + 1).toNat]! 3 else []) := ⟨by unfold DepM.next; rw [HI.out, HVL.out]⟩
              go_wp2_with fail
              refine HIx.out.mono ?_
              rintro e w6 ⟨rfl, rfl⟩
              clear HIx g0 s1 r0 g1
              go_upto_if 81 with (fail)
              by_cases hKl : I + 1 < (vl : Int)
              · obtain ⟨K, hK⟩ := Int.eq_ofNat_of_zero_le hI.1
                have hKl2 : K < vl := by omega
                have hKs : K < vs.length := by rw [HVL.out]; exact hKl2
                have HTq2 : Box (TA (q + 1) = TA q ++ (DepM.add gf tx 2 ++ DepM.add tx vs[K] 3)) := ⟨by rw [HTq.out, HNx.out, hK, Int.toNat_natCast, if_pos hKl2, getElem!_pos vs K hKs]⟩
                obtain ⟨vb, voff, hva, _, _⟩ := (HIv.out _ (HD2.out _ _ HD5.out).1).resolve_left (by intro h; rw [h] at hKs; simp at hKs)
                subst hva
                have HY : Box (∀ wx, Below w.heap.size w wx → wx.cell? ⟨vb, voff + K, none⟩ = some (.int .i64 vs[K])) := ⟨fun wx hb => by
                  obtain ⟨vb2, voff2, he, _, h2⟩ := (HIv.out _ hb).resolve_left (by intro h; rw [h] at hKs; simp at hKs)
                  injection he with he
                  injection he with he1 he2
                  subst he1; subst he2
                  exact h2 K hKs⟩
                have HCa : Box (∀ wx, D (R ++ s.tales k ++ TA q ++ DepM.add gf tx 2) wx → _) := box (fun wx h => HAdd.out tx vs[K] 3 _ wx h (by rw [List.length_append, List.length_append, List.length_append]; have := DepM.add_len gf tx 2; omega))
                have HDd : Box (∀ q', D (R ++ s.tales k ++ TA q ++ DepM.add gf tx 2) (w5.drewN q')) := ⟨fun q' => HDa.out _ _ _ HD5.out ⟨rfl, rfl, rfl, Nat.le_refl _, fun _ _ => rfl⟩⟩
                have HKd : Box (∀ q', Blk (w5.drewN q') A 30 [.int .i64 tx, .slice (some ⟨gb, goff, none⟩) gl gc]) := ⟨fun q' => HK5.out⟩
                have t0 := HK5.out.cell (i := 0) rfl
                have y0 := HY.out _ (HD2.out _ _ HD5.out).1
                generalize vs[K] = y at *
                have htK : (I + 1).toNat = K := by omega
                have hgK : (0 : Int) ≤ I + 1 := by omega
                have hwK : IntKind.i64.wrap (I + 1) = I + 1 := IntWalk.i64_in _ (by omega)
                clear hK hI1 hI2 hI
                go_wp2_with fail
                go_region_held3 (fun w' => w'.cell? ⟨A, 0, none⟩ = some (.int .i64 tx) ∧ w'.cell? ⟨vb, voff + K, none⟩ = some (.int .i64 y)) (first | exact ⟨t0, y0⟩ | assumption) (first
                  | (go_at_call 95; refine (HCa.out _ (HDd.out 1)).mono ?_; rintro e w9 ⟨rfl, hd9, hs9, hb9⟩; have HD9 := box hd9; have HK9 := box (hb9 A _ _ (by decide) (by decide) (HKd.out 1)); have hS9 := And.intro (HK9.out.cell (i := 0) rfl) (HY.out w9 (HD2.out _ _ hd9).1); clear hd9 hs9 hb9))
                clear t0 y0 htK hgK hwK hS9
                go_wp2_with fail
                go_roundw
                case rel => exact ⟨q + 1, by omega, by go_num, ⟨by rw [HTq2.out, ← List.append_assoc, ← List.append_assoc]; exact HD9.out, HK9.out⟩⟩
                case measure => simp [RowKit.intOf]; omega
              · have HTq2 : Box (TA (q + 1) = TA q ++ DepM.add gf tx 2) := ⟨by rw [HTq.out, HNx.out, if_neg (by omega), List.append_nil]⟩
                go_wp2_with fail
                go_roundw
                case rel => exact ⟨q + 1, by omega, by go_num, ⟨by rw [HTq2.out, ← List.append_assoc]; exact HD5.out, HK5.out⟩⟩
                case measure => simp [RowKit.intOf]; omega
            · obtain rfl : q = gl := by omega
              have HDn : Box (D (R ++ s.tales (k + 1)) wr) := ⟨by rw [HTs.out, ← List.append_assoc]; exact HDq.out.1⟩
              clear HDq
              go_wp2_with fail
              go_roundw
              case rel => exact ⟨k + 1, by omega, by go_num, HDn⟩
              case measure => simp [RowKit.intOf]; omega
        · obtain rfl : k = n := by omega
          have HDn : Box (D s.deps wr) := ⟨by unfold StoL.deps; rw [HRe.out, HN.out]; exact HDk.out⟩
          have hdl : s.deps.length ≤ 100000000 := by
            unfold StoL.deps
            rw [List.length_append, HRe.out]
            have := HTl.out s.tls.length (Nat.le_refl _)
            have := HN.out
            omega
          obtain ⟨v, hX, hown⟩ := (HD2.out _ _ HDn.out).2.1.row
          have x0 := hX.cell (i := 0) rfl
          have HX := box hX
          have HBw := box (HD2.out _ _ HDn.out).1
          have HSo := box (depSort_any s.deps v w.heap.size wr hown (by omega))
          have HTo : Box (s.told = DepM.compact (DepM.sorted s.deps)) := ⟨rfl⟩
          have hsl : (DepM.sorted s.deps).length = s.deps.length := (DepM.sorted_perm s.deps).length_eq
          have HCo := box (fun wx (h : wx.ownsRow w.heap.size 106 3 v s.deps.length (dpVals (DepM.sorted s.deps))) => compactDeps_any (DepM.sorted s.deps) v w.heap.size wx (by rw [hsl]; exact h) (by rw [hsl]; omega))
          clear hX hown HDk hsl
          go_wp2_with fail
          refine HSo.out.mono ?_
          rintro e w2 ⟨rfl, hown, hsz, hbl, hk2⟩
          have HX2 := box (hk2 X _ _ (by decide) HX.out)
          have x1 := HX2.out.cell (i := 0) rfl
          have HB2 : Box (Below w.heap.size w w2) := ⟨HBw.out.trans (hbl HBw.out.size)⟩
          have HO2 := box hown
          clear hown hsz hbl hk2 x0
          go_wp2_with fail
          refine (HCo.out w2 HO2.out).mono ?_
          rintro e w3 ⟨v', rfl, hown, hsz, hbl⟩
          have HO3 := box hown
          have HB3 : Box (Below w.heap.size w w3) := ⟨HB2.out.trans (hbl HB2.out.size)⟩
          clear hown hsz hbl x1
          go_wp2_with fail
          exact HPost2.out _ _ HB3.out HOk.out (by rw [HTo.out]; exact HO3.out)
end Go.Proofs.Ytgkclgmekbgjmaa
