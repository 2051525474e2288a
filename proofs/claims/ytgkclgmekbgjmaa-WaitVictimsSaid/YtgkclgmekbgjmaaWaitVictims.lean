/- WaitVictims is proved for every input: without the victims there is no loop, and with none of them there was none. -/
import Derived.Test.YtgkclgmekbgjmaaLawKit
import Derived.Test.YtgkclgmekbgjmaaVic
import Derived.Test.YtgkclgmekbgjmaaIntEq
import Derived.Test.YtgkclgmekbgjmaaEgOpen
namespace Go.Proofs.Ytgkclgmekbgjmaa
open Go.RowKit Go.Lib

def VicM.PostX (w : World) (e : Ending) (w' : World) : Prop := Below w.heap.size w w' ∧ ∃ g c, e = .returned (.tuple #[.slice (some ⟨g, 0, none⟩) 1 c, .int .i64 0]) ∧ IntsAt w' (some ⟨g, 0, none⟩) [1]
theorem vic_x (w : World) (ao : Option Addr) (h : EgsAt w ao VicM.ex) (hnil : ao = none → 2 = 0) : Calls Try.prog 20 #[.int .i64 3, .slice ao 2 2] w (VicM.PostX w) := by
  refine (victims_any 3 VicM.ex ao 2 w h hnil (by decide)).mono ?_
  rintro e w' ⟨hb, ⟨h1, _⟩ | ⟨_, out, r, v, hV, hp, rfl, hown⟩⟩
  · exact absurd (show GrM.check 3 VicM.ex = 0 from by decide) h1
  · obtain rfl := VicM.ex_vic hV
    obtain rfl : r = [1] := List.perm_singleton.1 hp
    obtain ⟨ao, cap, rfl, _, hat, _, _⟩ := IntsAt.own hown
    obtain ⟨b, off, rfl, h1, h2⟩ := hat.resolve_left (by simp)
    rcases hown.2 with ⟨e1, _⟩ | ⟨g, c2, cur, e1, _⟩
    · cases e1
    · injection e1 with e1
      injection e1 with e1
      injection e1 with e1 e2
      subst e1 e2
      exact ⟨hb, b, cap, rfl, Or.inr ⟨b, 0, rfl, h1, h2⟩⟩
/-- What the victims leave. -/
def VicM.keeps (r : List Int) (e : EgM) : Bool := !(decide (e.frm ∈ r) || decide (e.to_ ∈ r))
theorem VicM.left_ok {m : Nat} {L : List EgM} {out : List Nat} {r : List Int} (h : VicM.Vic m L out) (hp : r.Perm (GrM.ints out)) : GrM.order m (L.filter (VicM.keeps r)) ≠ none :=
  h.after _ (List.filter_congr fun e _ => by
    unfold VicM.keeps
    rw [decide_eq_decide.2 hp.mem_iff, decide_eq_decide.2 (hp.mem_iff (a := e.to_))])
theorem VicM.take_succ (r : List Int) {L : List EgM} {k : Nat} (hk : k < L.length) : (L.take (k + 1)).filter (VicM.keeps r) = (L.take k).filter (VicM.keeps r) ++ if VicM.keeps r L[k] = true then [L[k]] else [] := by
  rw [List.take_succ_eq_append_getElem hk, List.filter_append]
  congr 1
  by_cases h : VicM.keeps r L[k] = true <;> simp [h]

set_option maxRecDepth 20000 in
set_option maxHeartbeats 16000000 in
theorem waitVictims_calls (n : Int) (L : List EgM) (ao : Option Addr) (cap : Nat) (w : World) (h : EgsAt w ao L) (hnil : ao = none → cap = 0) (hlen : L.length ≤ 8796093022207) :
    Calls Try.prog 6 #[.int .i64 n, .slice ao L.length cap] w fun e w' => e = .returned (.bool true) ∧ Below w.heap.size w w' := by
  obtain ⟨i0, hi0, hz0, hz1, hz2⟩ := info_parts Try.infoEg
  have H := box h
  have HNil := box hnil
  clear h hnil
  go_enter Try.func6, Try.ntmps6
  go_wp2_with fail
  refine (vic_x _ (some ⟨w.heap.size, 0, none⟩) (Or.inr ⟨w.heap.size, 0, rfl, by simp, fun k hk => by
    rcases (show k = 0 ∨ k = 1 by simp [VicM.ex] at hk; omega) with rfl | rfl
    · exact ⟨(Blk.new w [.int .i64 0, .int .i64 1, .int .i64 1, .int .i64 0] 46).cell rfl, (Blk.new w [.int .i64 0, .int .i64 1, .int .i64 1, .int .i64 0] 46).cell rfl⟩
    · exact ⟨(Blk.new w [.int .i64 0, .int .i64 1, .int .i64 1, .int .i64 0] 46).cell rfl, (Blk.new w [.int .i64 0, .int .i64 1, .int .i64 1, .int .i64 0] 46).cell rfl⟩⟩) (by intro h; cases h)).mono ?_
  rintro e w1 ⟨hb1, pg, pc, rfl, hat⟩
  have HB1 := box (((Below.refl _ _).alloc (Nat.le_refl _) _).trans (hb1.mono (by simp)))
  have HAt := box hat
  clear hat hb1
  go_wp2_with fail
  refine (equalInts_same [1] (some ⟨pg, 0, none⟩) (some ⟨w1.heap.size, 0, none⟩) pc 1 _ (HAt.out.below ((Below.refl _ _).alloc (Nat.le_refl _) _) (Nat.le_refl _)) (Or.inr ⟨w1.heap.size, 0, rfl, by simp, fun k hk => by
    rw [Nat.zero_add]
    exact (Blk.new w1 (intVals [1]) 3).cell (intVals_get hk)⟩) (by simp)).mono ?_
  rintro e w2 ⟨rfl, n2, rfl⟩
  have HB2 : Box (Below w.heap.size w ((w1.alloc (.cells #[.int .i64 1] 3)).drewN n2)) := ⟨(HB1.out.alloc HB1.out.size _).trans ⟨rfl, rfl, rfl, Nat.le_refl _, fun _ _ => rfl⟩⟩
  generalize (w1.alloc (.cells #[.int .i64 1] 3)).drewN n2 = W2 at *
  clear HAt HB1
  go_wp2_with fail
  refine (victims_any n L ao cap W2 (H.out.below HB2.out (Nat.le_refl _)) HNil.out (by omega)).mono ?_
  rintro e W3 ⟨hb3, hc⟩
  have HB3 := box (below_tr HB2.out hb3)
  clear hb3
  rcases hc with ⟨hc0, rfl⟩ | ⟨hc0, out, r, v, hV, hp, rfl, hown⟩
  · obtain ⟨c, HC⟩ : ∃ c, Box (GrM.check n L = c) := ⟨_, ⟨rfl⟩⟩
    rw [HC.out] at hc0 ⊢
    have g1 : (c == 0) = false := by simp [hc0]
    have g2 : (c != 0) = true := by simp [hc0]
    clear hc0
    go_wp2_with fail
    go_ret
    exact ⟨by simp, HB3.out⟩
  obtain ⟨m, rfl, hm6, hl2, hz⟩ := GrM.check_ok hc0
  clear hz
  rw [Int.toNat_natCast] at hV
  obtain ⟨va, vc, rfl, _, hvat, _, _⟩ := IntsAt.own hown
  have HC := box hc0; have HOk := box (VicM.left_ok hV hp); have HEm := box hV.empty; have HVat := box hvat
  have hrl : r.length = out.length := by rw [hp.length_eq]; simp [GrM.ints]
  have hrl2 : r.length ≤ L.length := by rw [hrl]; exact hV.len
  have HR0 : Box (r.length = 0 ↔ GrM.order m L ≠ none) := ⟨by rw [hrl, List.length_eq_zero_iff]; exact hV.empty⟩
  have HCt := box (fun (wx : World) (hb : Below W3.heap.size W3 wx) (x : Int) => contains_ints r x va vc wx (hvat.below hb (Nat.le_refl _)) (by omega))
  obtain ⟨RL, HRL⟩ : ∃ x, Box (r.length = x) := ⟨_, ⟨rfl⟩⟩
  obtain ⟨N, HN⟩ : ∃ x, Box (L.length = x) := ⟨_, ⟨rfl⟩⟩
  obtain ⟨B3, HB3e⟩ : ∃ x, Box (W3.heap.size = x) := ⟨_, ⟨rfl⟩⟩
  rw [HRL.out] at HCt HR0 hrl2 ⊢
  rw [HN.out] at hlen hl2 hrl2 ⊢
  rw [HB3e.out] at HCt
  have hsB : w.heap.size ≤ B3 := by rw [← HB3e.out]; exact HB3.out.size
  clear hc0 hV hp hown hvat hrl
  go_wp2_with fail
  go_loopw [9, 44] (fun t9 t44 wr => ∃ (k : Nat) (E : List EgM) (a : Option Addr) (c : Nat), k ≤ N ∧ E.length ≤ k ∧ t44 = .int .i64 (k : Int) ∧ t9 = .slice a E.length c ∧ Box (E = (L.take k).filter (VicM.keeps r) ∧ Below B3 W3 wr ∧ wr.ownsRow B3 46 2 (.slice a E.length c) E.length (egVals E))) (fun _ t44 _ => N - (RowKit.intOf t44).toNat)
  case atStart => exact ⟨0, [], none, 0, Nat.zero_le _, Nat.le_refl _, rfl, rfl, ⟨by simp, by rw [← HB3e.out]; exact Below.refl _ _, World.ownsRow_nil _ _ _ _⟩⟩
  case round =>
    obtain ⟨k, E, a, c, hk, hEl, rfl, rfl, HR⟩ := hrel
    by_cases hlt : k < N
    · have hkl : k < L.length := by rw [HN.out]; exact hlt
      have hbw : Below w.heap.size w wr := HB3.out.trans (HR.out.2.1.mono hsB)
      obtain ⟨b, off, rfl, hb, hrow⟩ := (H.out.below hbw (Nat.le_refl _)).resolve_left (by intro h; have := HN.out; rw [h, List.length_nil] at this; omega)
      obtain ⟨c0, c1⟩ := hrow k hkl
      have HSt := box (VicM.take_succ r hkl)
      have hw3 : B3 ≤ wr.heap.size := by have := HR.out.2.1.size; have := HB3e.out; omega
      generalize L[k] = x at *
      obtain ⟨x, y⟩ := x
      dsimp only at c0 c1
      have hA := (Blk.new wr [.int .i64 x, .int .i64 y] 46)
      have HWA : Box (Below B3 W3 (wr.alloc (.cells #[.int .i64 x, .int .i64 y] 46)) ∧ (wr.alloc (.cells #[.int .i64 x, .int .i64 y] 46)).ownsRow B3 46 2 (.slice a E.length c) E.length (egVals E)) := ⟨HR.out.2.1.alloc hw3 _, HR.out.2.2.alloc _⟩
      have x0 := hA.cell (i := 0) rfl
      have x1 := hA.cell (i := 1) rfl
      have hAl := hA.lt
      have hK : VicM.keeps r ⟨x, y⟩ = !(decide (x ∈ r) || decide (y ∈ r)) := rfl
      have HC1 := box (HCt.out _ HWA.out.1 x)
      have HC2 := box (HCt.out _ HWA.out.1 y)
      rw [hK] at HSt
      clear hK hA hrow hbw
      go_wp2_with fail
      refine HC1.out.mono ?_
      rintro e w5 ⟨rfl, rfl⟩
      generalize decide (x ∈ r) = u at *
      generalize decide (y ∈ r) = v at *
      cases u with
      | true =>
        clear HC2
        go_wp2_with fail
        go_roundw
        case rel => exact ⟨k + 1, E, a, c, by omega, by omega, by go_num, rfl, ⟨by rw [HSt.out, ← HR.out.1]; simp, HWA.out⟩⟩
        case measure => simp [RowKit.intOf]; omega
      | false =>
        go_wp2_with fail
        refine HC2.out.mono ?_
        rintro e w5 ⟨rfl, rfl⟩
        cases v with
        | true =>
          go_wp2_with fail
          go_roundw
          case rel => exact ⟨k + 1, E, a, c, by omega, by omega, by go_num, rfl, ⟨by rw [HSt.out, ← HR.out.1]; simp, HWA.out⟩⟩
          case measure => simp [RowKit.intOf]; omega
        | false =>
          obtain ⟨W5, HW5⟩ : ∃ W, Box (wr.alloc (.cells #[.int .i64 x, .int .i64 y] 46) = W) := ⟨_, ⟨rfl⟩⟩
          rw [HW5.out] at HWA x0 x1 hAl ⊢
          have hw5 : B3 ≤ W5.heap.size := by have := HWA.out.1.size; have := HB3e.out; omega
          have hown := HWA.out.2.alloc (.cells #[.int .i64 x, .int .i64 y] 46)
          clear HC1 HC2 HW5 c0 c1
          go_wp2_with (at_builtin; go_must (refine wpList_append_lies _ rfl _ _ 42 rfl B3 46 i0 _ 2 16 Try.underlying42 hi0 hz0 hz1 hz2 rfl (by decide) _ _ _ rfl hown ⟨W5.heap.size, 0, none⟩ 1 1 [.int .i64 x, .int .i64 y] rfl rfl (cells_new W5 [.int .i64 x, .int .i64 y] 46) (by simp [Value.oneCell']) (by decide) (by unfold maxLen; omega) (by omega) (by simp; omega) (W5.heap.size + 1) (by simp) ?_))
          intro gg gcap w7 hown7 hgrow7 hat7 hlt7
          have hE1 : (E ++ [EgM.mk x y]).length = E.length + 1 := by simp
          have HNx : Box (E ++ [EgM.mk x y] = (L.take (k + 1)).filter (VicM.keeps r) ∧ Below B3 W3 w7 ∧ w7.ownsRow B3 46 2 (.slice (some ⟨gg, 0, none⟩) (E ++ [EgM.mk x y]).length gcap) (E ++ [EgM.mk x y]).length (egVals (E ++ [EgM.mk x y]))) := ⟨by
            refine ⟨by rw [HSt.out, ← HR.out.1]; simp, (HWA.out.1.alloc hw5 _).grown hgrow7 (by simp; omega) (fun j hj => (HWA.out.2.lt j hj).1), ?_⟩
            rw [hE1, egVals_append]; exact hown7⟩
          clear hown7 hgrow7 hat7 hlt7 hown
          go_wp2_with fail
          go_roundw
          case rel => exact ⟨k + 1, E ++ [EgM.mk x y], some ⟨gg, 0, none⟩, gcap, by omega, by rw [hE1]; omega, by go_num, by rw [hE1], HNx⟩
          case measure => simp [RowKit.intOf]; omega
    · obtain rfl : k = N := by omega
      have hEe : E = L.filter (VicM.keeps r) := by rw [HR.out.1, ← HN.out, List.take_length]
      have hck : GrM.check (m : Int) E = 0 := VicM.check_sub HC.out (by rw [hEe]; exact List.filter_sublist)
      have hor : GrM.order m E ≠ none := by rw [hEe]; exact HOk.out
      obtain ⟨ea, ec, he1, _, heat, _, _⟩ := EgsAt.own HR.out.2.2
      injection he1 with he1 _ he2
      subst he1 he2
      have HBw : Box (Below w.heap.size w wr) := ⟨HB3.out.trans (HR.out.2.1.mono hsB)⟩
      have HG1 := box (graphOrder_any (m : Int) E a c wr heat (by omega))
      have HCk := box hck; have HOr := box hor
      clear hck hor heat hEe
      go_wp2_with fail
      refine HG1.out.mono ?_
      rintro e W5 ⟨hb5, hc5⟩
      have HB5 := box (below_tr HBw.out hb5)
      clear hb5
      rcases hc5 with ⟨hx, _⟩ | ⟨_, hx, _⟩ | ⟨_, x, v5, _, rfl, _⟩
      · exact absurd HCk.out hx
      · rw [Int.toNat_natCast] at hx
        exact absurd hx HOr.out
      have HG2 := box (graphOrder_any (m : Int) L ao cap W5 (H.out.below HB5.out (Nat.le_refl _)) (by have := HN.out; omega))
      rw [HN.out] at HG2
      clear HG1
      go_wp2_with fail
      refine HG2.out.mono ?_
      rintro e W6 ⟨hb6, hc6⟩
      have HB6 := box (below_tr HB5.out hb6)
      clear hb6 HG2
      rcases hc6 with ⟨hx, _⟩ | ⟨_, hx, rfl⟩ | ⟨_, x6, v6, hx, rfl, _⟩
      · exact absurd HC.out hx
      · rw [Int.toNat_natCast] at hx
        have hr0 : ((RL : Int) == 0) = false := by
          have : RL ≠ 0 := fun h => HR0.out.1 h hx
          simp; omega
        clear hx
        go_wp2_with fail
        go_ret
        exact ⟨by simp, HB6.out⟩
      · rw [Int.toNat_natCast] at hx
        obtain rfl : RL = 0 := HR0.out.2 (by rw [hx]; simp)
        clear hx
        go_wp2_with fail
        go_ret
        exact ⟨by simp, HB6.out⟩

namespace lawWaitVictims
open Go.ChangeShapes Go.WideShapes Go.ChangeAt Go.RowKit Go.ChangeMaps

set_option maxRecDepth 100000 in
theorem lifted (os : Os) (started : os.Started) (H : Type) (enc : TypeId × Value → H) :
    ReturnsInHanded {} Try.checked os 6 .any (Rows.waitVictimsSpec.pre6 enc Try.prog Try.f6 [] false) (Rows.waitVictimsSpec.post enc Try.prog Try.f6 false true false false) := by
  refine LawKit.law_lifted started (by kernel_rfl) Try.func6 rfl
    (fun ds h => by
      match ds, h with
      | [_, _], _ => rfl)
    rfl Try.underlying4 (by intro t ht; exact of_decide_eq_true (p := Try.prog.readableRec t = true ∧ t < Try.prog.types.size) (by revert t ht; decide +kernel))
    (ChangeSpec.witness6 (enc := enc) (C := Try.checked) false ⟨#[], #[.int .i64 0, .slice none 0 0], []⟩ 8 (by kernel_rfl) (by kernel_rfl) (by kernel_rfl) (by kernel_rfl)) ?_
  intro W base args ds ps hval hA hsz hlt hfz
  have hA' := hA
  rw [Try.params6] at hA hval
  obtain ⟨v0, vs0, d0, ds0, p0, q0, hargs, rfl, rfl, h0, r0⟩ := trodAll_cons hA
  obtain ⟨v1, vs1, d1, ds1, p1, q1, rfl, rfl, rfl, h1, r1⟩ := trodAll_cons r0
  obtain ⟨rfl, rfl, rfl⟩ := trodAll_nil r1
  obtain rfl : args = #[v0, v1] := by cases args; simp_all
  go_open 0 n
  obtain ⟨ao, cap, L, rfl, hat, _, hnl, hln⟩ := open_egs (hval 1 _ _ rfl rfl) h1 (Open.weights_bound hsz (j := 1) (by rw [Try.params6]; rfl) rfl)
  refine (waitVictims_calls n L ao cap W hat hnl (by omega)).mono ?_
  rintro e W' ⟨rfl, hb⟩
  exact ⟨rfl, hb⟩

theorem proved : Rows.WaitVictimsSaid :=
  OpenClaim.holds_of_wide 6 Try.f6 rfl rfl rfl rfl rfl rfl rfl ⟨rfl, rfl, rfl, rfl, rfl⟩ rfl rfl rfl rfl rfl (by kernel_rfl) Try.func6 (by kernel_rfl)
    (of_decide_eq_true (by kernel_rfl)) (by unfold Func.isWrapper; first | (rw [if_pos (by decide +kernel)]; kernel_rfl) | (rw [if_neg (by decide +kernel)]; exact ⟨rfl, rfl⟩))
    (fun os started H enc _ => lifted os started H enc)
end lawWaitVictims
end Go.Proofs.Ytgkclgmekbgjmaa
