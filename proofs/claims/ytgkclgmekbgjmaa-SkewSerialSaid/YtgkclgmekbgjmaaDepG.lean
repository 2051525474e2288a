/- order.Serial: what it answers. -/
import Derived.Test.YtgkclgmekbgjmaaDepF
namespace Go.Proofs.Ytgkclgmekbgjmaa
open Go.RowKit Go.Lib

theorem serTale_tells (x : Int) (X : Nat) (W : World) (hk : Blk W X 3 [.int .i64 x]) (l : List TaleL) :
    TellsT 48 #[.pointer (some ⟨X, 0, none⟩)] (fun t => t.tx == x) l W := by
  rintro ⟨a, ga, gc, gs⟩ _
  have HK := box hk
  have hlt := hk.lt
  clear hk
  show Calls Try.prog 48 #[.agg #[.int .i64 a, .slice ga gs.length gc], .pointer (some ⟨X, 0, none⟩)] W _
  go_enter Try.func48, Try.ntmps48
  go_upto_region 1 with (fail)
  refine name_world (fun V => Below W.heap.size W V ∧ Blk V X 3 [.int .i64 x] ∧ Blk V W.heap.size 30 [.int .i64 a, .slice ga gs.length gc]) ⟨(Below.refl _ _).alloc (Nat.le_refl _) _, HK.out.alloc _, Blk.new _ _ _⟩ ?_
  rintro V ⟨hb, hx, ht⟩
  have HB := box hb
  have c0 := hx.cell (i := 0) rfl
  have d0 := ht.cell (i := 0) rfl
  clear hb hx ht HK
  go_wp2_with fail
  go_ret
  exact ⟨rfl, HB.out⟩

set_option maxRecDepth 20000 in
set_option maxHeartbeats 2000000 in
theorem serKeep_tells (s : StoL) (S : Nat) (W : World) (hs : Blk W S 25 s.cells) (ht : TalesAt W s.ta s.tls) (hn : s.tls.length ≤ 9000000000000000) (l : List Int) :
    TellsB 46 #[.pointer (some ⟨S, 0, none⟩)] (fun k => !s.isTold k) l W := by
  intro k _
  show Calls Try.prog 46 #[.int .i64 k, .pointer (some ⟨S, 0, none⟩)] W _
  have HS : Box (Blk W S 25 [.slice s.ta s.tls.length s.tc, .slice s.ra s.vrs.length s.rc]) := ⟨hs⟩
  have HC := box (fun V (hb : Below W.heap.size W V) (X : Nat) (hx : Blk V X 3 [.int .i64 k]) => containsFunc_tales s.tls s.ta s.tc 48 #[.pointer (some ⟨X, 0, none⟩)] (fun t => t.tx == k) V (ht.below hb (Nat.le_refl _)) (by omega) (fun U hU => serTale_tells k X U (hx.after hU) s.tls) (enters_fn Try.func48 (by kernel_rfl) rfl))
  have HI : Box (s.isTold k = s.tls.any (fun t => t.tx == k)) := ⟨rfl⟩
  dsimp only
  rw [HI.out]
  obtain ⟨u, Hu⟩ : ∃ u, Box (s.tls.any (fun t => t.tx == k) = u) := ⟨_, ⟨rfl⟩⟩
  rw [Hu.out] at HC ⊢
  clear hs ht
  go_enter Try.func46, Try.ntmps46
  go_upto_region 1 with (fail)
  refine name_world (fun V => Below W.heap.size W V ∧ Blk V S 25 [.slice s.ta s.tls.length s.tc, .slice s.ra s.vrs.length s.rc] ∧ Blk V W.heap.size 3 [.int .i64 k]) ⟨(Below.refl _ _).alloc (Nat.le_refl _) _, HS.out.alloc _, Blk.new _ _ _⟩ ?_
  rintro V ⟨hb, hs, hx⟩
  have HB := box hb
  have c0 := hs.cell (i := 0) rfl
  have HX := box hx
  clear hb hs hx HS
  go_wp2_with fail
  refine (HC.out V HB.out W.heap.size HX.out).mono ?_
  rintro e w2 ⟨rfl, hb2⟩
  have HB2 : Box (Below W.heap.size W w2) := ⟨below_tr HB.out hb2⟩
  clear hb2
  go_wp2_with fail
  go_ret
  exact ⟨rfl, HB2.out⟩

/-- What order.Serial answers. -/
def StoL.SerPost (s : StoL) (w : World) (e : Ending) (w' : World) : Prop :=
  Below w.heap.size w w' ∧ ((¬ s.Ok ∧ ∃ c : Int, c ≠ 0 ∧ c ≠ 11 ∧ e = .returned (.tuple #[.slice none 0 0, .int .i64 c])) ∨
    (s.Ok ∧ GrM.order 12 (s.edges 3) = none ∧ e = .returned (.tuple #[.slice none 0 0, .int .i64 11])) ∨
    (s.Ok ∧ ∃ r v, GrM.order 12 (s.edges 3) = some r ∧ e = .returned (.tuple #[v, .int .i64 0]) ∧ w'.ownsRow w.heap.size 3 1 v (s.turn r).length (intVals (s.turn r))))
theorem DepM.all_succ {l : List DepM} {k : Nat} (h : k < l.length) : (l.take (k + 1)).map DepM.eg = (l.take k).map DepM.eg ++ [DepM.eg l[k]] := by
  rw [List.take_succ_eq_append_getElem h, List.map_append]; rfl

set_option maxRecDepth 20000 in
set_option maxHeartbeats 8000000 in
theorem orderSerial_any (s : StoL) (w : World) (h : StoAt w s) (hsm : ∀ t ∈ s.tls, t.gs.length ≤ 1048576) :
    Calls Try.prog 13 #[.agg #[.slice s.ta s.tls.length s.tc, .slice s.ra s.vrs.length s.rc]] w (s.SerPost w) := by
  obtain ⟨i0, hi0, hz0, hz1, hz2⟩ := info_partsD Try.infoEg
  have HC := box (fun wx (hb : Below w.heap.size w wx) => orderDeps_any s wx (h.below hb (Nat.le_refl _)) hsm)
  have HT : Box (s.Ok → s.told.length ≤ 432) := ⟨fun hok =>
    DepM.few (DepM.compact_nodup (DepM.sorted_pair _)) (fun d hd => by
      have := (hok.fit (StoL.mem_told.1 hd)).1; omega)⟩
  have HTa : Box (∀ wx, Below w.heap.size w wx → TalesAt wx s.ta s.tls) := ⟨fun wx hb => (h.below hb (Nat.le_refl _)).tl⟩
  have hn9 := h.tn.1
  have HPost1 : Box (∀ (w' : World) (c : Int), Below w.heap.size w w' → ¬ s.Ok → c ≠ 0 → c ≠ 11 → s.SerPost w (.returned (.tuple #[.slice none 0 0, .int .i64 c])) w') := ⟨fun w' c h1 h2 h3 h4 => ⟨h1, Or.inl ⟨h2, c, h3, h4, rfl⟩⟩⟩
  have HPost2 : Box (∀ (w' : World), Below w.heap.size w w' → s.Ok → GrM.order 12 (s.edges 3) = none → s.SerPost w (.returned (.tuple #[.slice none 0 0, .int .i64 11])) w') := ⟨fun w' h1 h2 h3 => ⟨h1, Or.inr (Or.inl ⟨h2, h3, rfl⟩)⟩⟩
  have HPost3 : Box (∀ (w' : World) r v, Below w.heap.size w w' → s.Ok → GrM.order 12 (s.edges 3) = some r → w'.ownsRow w.heap.size 3 1 v (s.turn r).length (intVals (s.turn r)) → s.SerPost w (.returned (.tuple #[v, .int .i64 0])) w') := ⟨fun w' r v h1 h2 h3 h4 => ⟨h1, Or.inr (Or.inr ⟨h2, r, v, h3, rfl, h4⟩)⟩⟩
  obtain ⟨Post, HP⟩ : ∃ P, Box (s.SerPost w = P) := ⟨_, ⟨rfl⟩⟩
  rw [HP.out] at HPost1 HPost2 HPost3 ⊢
  obtain ⟨n, HN⟩ : ∃ n, Box (s.tls.length = n) := ⟨_, ⟨rfl⟩⟩
  obtain ⟨m, HM⟩ : ∃ m, Box (s.vrs.length = m) := ⟨_, ⟨rfl⟩⟩
  rw [HN.out, HM.out] at HC ⊢
  clear h hsm HP
  go_enter Try.func13, Try.ntmps13
  go_upto_region 1 with (fail)
  refine name_world (fun W => Below w.heap.size w W ∧ Blk W w.heap.size 25 [.slice s.ta n s.tc, .slice s.ra m s.rc]) ⟨(Below.refl _ _).alloc (Nat.le_refl _) _, Blk.new _ _ _⟩ ?_
  rintro W ⟨hb, hs⟩
  have HB := box hb; have HS := box hs
  have p0 := hs.cell (i := 0) rfl
  have p1 := hs.cell (i := 1) rfl
  clear hb hs
  go_wp2_with fail
  refine (HC.out _ HB.out).mono ?_
  rintro e w1 ⟨hb, ⟨hno, c, hc0, hc11, rfl⟩ | ⟨hok, v, rfl, hown⟩⟩
  · have HB1 : Box (Below w.heap.size w w1) := ⟨below_tr HB.out hb⟩
    have q1 : (c == 0) = false := by simpa using hc0
    have q2 : (c != 0) = true := by simpa using hc0
    have HNo := box (And.intro hno (And.intro hc0 hc11))
    clear hb hno hc0 hc11 p0 p1
    go_wp2_with fail
    exact HPost1.out _ c HB1.out HNo.out.1 HNo.out.2.1 HNo.out.2.2
  have HB1 : Box (Below w.heap.size w w1) := ⟨below_tr HB.out hb⟩
  have HS1 := box (HS.out.after hb)
  have HOk := box hok
  obtain ⟨ao, cap, rfl, _, hat, _, _⟩ := DpsAt.own hown
  have HAt := box hat
  have hl := HT.out hok
  obtain ⟨N, HNt⟩ : ∃ N, Box (s.told.length = N) := ⟨_, ⟨rfl⟩⟩
  rw [HNt.out] at hl ⊢
  clear hb hok hown hat p0 p1 HC HT HB HS
  go_wp2_with fail
  go_loopw [6, 20] (fun t6 t20 wr => ∃ (k : Nat) (v : Value), k ≤ N ∧ v = t6 ∧ t20 = .int .i64 (k : Int) ∧ Box (DepM.EW w1 ((s.told.take k).map DepM.eg) v wr)) (fun _ t20 _ => N - (RowKit.intOf t20).toNat)
  case atStart => exact ⟨0, _, Nat.zero_le _, rfl, rfl, ⟨⟨Below.refl _ _, World.ownsRow_nil _ _ _ _⟩⟩⟩
  case round =>
    obtain ⟨k, v, hk, hv, rfl, HE⟩ := hrel
    subst hv
    by_cases hlt : k < N
    · have hkl : k < s.told.length := by rw [HNt.out]; exact hlt
      obtain ⟨b, off, rfl, hb, hrow⟩ := (HAt.out.below HE.out.below (Nat.le_refl _)).resolve_left (by intro h; rw [h] at hkl; simp at hkl)
      obtain ⟨c0, c1, c2⟩ := hrow k hkl
      have HT := box (DepM.all_succ hkl)
      have hlen : ((s.told.take k).map DepM.eg).length ≤ k := by rw [List.length_map]; exact List.length_take_le _ _
      generalize s.told[k] = d at *
      obtain ⟨d0, d1, d2⟩ := d
      simp only at c0 c1 c2
      generalize (s.told.take k).map DepM.eg = ms at *
      clear hrow
      go_upto_region 8 with (fail)
      refine name_world (fun W => DepM.EW w1 ms v W ∧ Blk W wr.heap.size 106 [.int .i64 d0, .int .i64 d1, .int .i64 d2]) ⟨⟨HE.out.below.alloc HE.out.below.size _, HE.out.own.alloc _⟩, Blk.new _ _ _⟩ ?_
      generalize wr.heap.size = A at *
      rintro W ⟨he, hk1⟩
      have HE1 := box he
      have x0 := hk1.cell (i := 0) rfl
      have x1 := hk1.cell (i := 1) rfl
      have HT2 : Box ((s.told.take (k + 1)).map DepM.eg = ms ++ [⟨d0, d1⟩]) := ⟨HT.out⟩
      have hbs := HE1.out.below.size
      have hown2 := HE1.out.own.alloc (.cells #[.int .i64 d0, .int .i64 d1] 46)
      clear he hk1 c0 c1 c2
      go_wp2_with (at_builtin; go_must (refine wpList_append_own _ rfl _ _ 42 rfl w1.heap.size 46 i0 _ 2 16 Try.underlying42 hi0 hz0 hz1 hz2 rfl (by decide) _ _ _ rfl hown2 ⟨W.heap.size, 0, none⟩ 1 1 [.int .i64 d0, .int .i64 d1] rfl rfl (cells_new W [.int .i64 d0, .int .i64 d1] 46) (by simp [Value.oneCell']) (by unfold maxLen; omega) (by omega) (by simp; omega) ?_))
      intro v' w3 hown3 hgrow _
      have HB3 : Box (Below w1.heap.size w1 w3) := ⟨(HE1.out.below.alloc hbs _).grown hgrow (by simp; omega) (fun b hb => (HE1.out.own.lt b hb).1)⟩
      have HO := box hown3
      clear hown3 hgrow hown2
      go_wp2_with fail
      go_roundw
      case rel =>
        refine ⟨k + 1, _, by omega, rfl, by go_num, ⟨⟨HB3.out, ?_⟩⟩⟩
        rw [HT2.out, egVals_append, List.length_append]
        exact HO.out
      case measure => simp [RowKit.intOf]; omega
    · have HEn : Box (DepM.EW w1 (s.edges 3) v wr) := ⟨by
        have h1 := HE.out
        rwa [List.take_of_length_le (by have := HNt.out; omega), ← StoL.edges_all HOk.out] at h1⟩
      obtain ⟨eo, ec, rfl, _, hat, _, _⟩ := EgsAt.own HEn.out.own
      have HG := box (graphOrder_any 12 (s.edges 3) eo ec wr hat (by rw [StoL.edges_all HOk.out, List.length_map]; have := HNt.out; omega))
      obtain ⟨en, Hen⟩ : ∃ x, Box ((s.edges 3).length = x) := ⟨_, ⟨rfl⟩⟩
      rw [Hen.out] at HG ⊢
      have HB := box (below_tr HB1.out HEn.out.below)
      have HSr := box (HS1.out.after HEn.out.below)
      clear hat HE HEn
      go_wp2_with fail
      refine HG.out.mono ?_
      rintro e w2 ⟨hb2, ⟨hx, _⟩ | ⟨_, ho, rfl⟩ | ⟨_, r, v, ho, rfl, hown⟩⟩
      · exact absurd (HOk.out.check 3) hx
      · have HB2 := box (below_tr HB.out hb2); have Ho : Box (GrM.order 12 (s.edges 3) = none) := ⟨ho⟩
        clear hb2 ho HG
        go_wp2_with fail
        exact HPost2.out _ HB2.out HOk.out Ho.out
      · have HB2 := box (below_tr HB.out hb2); have Ho : Box (GrM.order 12 (s.edges 3) = some r) := ⟨ho⟩
        have HOw := box hown
        have HSz := box hb2.size
        have HS2 := box (HSr.out.after hb2)
        have hrl := (GrM.order_ok Ho.out).2
        have hil : (GrM.ints r).length = 12 := by rw [GrM.ints_len]; exact hrl
        have HDl := box (deleteB_any (GrM.ints r) v wr.heap.size 46 #[.pointer (some ⟨w.heap.size, 0, none⟩)] (fun k => !s.isTold k) w2 (by rw [hil, ← hrl]; exact hown) hb2.size (by omega)
          (fun W hW => serKeep_tells s w.heap.size W (by
              have h1 : Blk W w.heap.size 25 [.slice s.ta n s.tc, .slice s.ra m s.rc] := HS2.out.below hW HSr.out.lt
              rw [← HN.out, ← HM.out] at h1
              exact h1) (HTa.out W (HB2.out.trans (hW.mono HB.out.size))) hn9 _) (enters_fn Try.func46 (by kernel_rfl) rfl))
        have HFi : Box ((GrM.ints r).filter (fun x => !(fun k => !s.isTold k) x) = s.turn r) := ⟨by unfold StoL.turn; apply List.filter_congr; intro x _; simp⟩
        rw [HFi.out] at HDl
        clear hb2 ho HG hown hrl hil
        go_wp2_with fail
        refine HDl.out.mono ?_
        rintro e w3 ⟨v', rfl, hown, hsz, hb3⟩
        have HB3 : Box (Below w.heap.size w w3) := ⟨HB2.out.trans (hb3.mono HB.out.size)⟩
        have HO3 := box (ownsRow_mono hown HB.out.size)
        clear hown hsz hb3
        go_wp2_with fail
        exact HPost3.out _ r _ HB3.out HOk.out Ho.out HO3.out
end Go.Proofs.Ytgkclgmekbgjmaa
