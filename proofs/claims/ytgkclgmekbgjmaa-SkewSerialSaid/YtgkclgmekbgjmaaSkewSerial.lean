/- SkewSerial is proved for every input: what commits has an order. -/
import Derived.Test.YtgkclgmekbgjmaaLawKit
import Derived.Test.YtgkclgmekbgjmaaDidA
import Derived.Test.YtgkclgmekbgjmaaSkP
import Derived.Test.YtgkclgmekbgjmaaSsL
import Derived.Test.YtgkclgmekbgjmaaOfS
import Derived.Test.YtgkclgmekbgjmaaDepG
import Derived.Test.YtgkclgmekbgjmaaOpsOpen
import Derived.Test.YtgkclgmekbgjmaaOp
namespace Go.Proofs.Ytgkclgmekbgjmaa
open Go.RowKit Go.Lib

def SkM.LeftS (l : List OpM) (w : World) (e : Ending) (w' : World) : Prop :=
  Below w.heap.size w w' ∧ ∃ (D : List DidM) (ao : Option Addr) (c1 : Nat) (c : Int), c = RunM.check l ∧ e = .returned (.tuple #[.slice ao D.length c1, .int .i64 c]) ∧ DidAt w' ao D ∧ (c ≠ 0 → D = []) ∧ (c = 0 → D = SkM.play l)
theorem skew_leftS (l : List OpM) (ao : Option Addr) (cap : Nat) (w : World) (h : OpsAt w ao l) (hf : RunM.Fits l) :
    Calls Try.prog 23 #[.slice ao l.length cap] w (SkM.LeftS l w) := by
  refine (skew_any l ao cap w h hf).mono ?_
  rintro e w' ⟨hb, ⟨hc, rfl⟩ | ⟨hc, v, rfl, hr⟩⟩
  · exact ⟨hb, [], none, 0, _, rfl, rfl, Or.inl rfl, fun _ => rfl, fun h => absurd h hc⟩
  · obtain ⟨ao, c1, rfl, h2⟩ := DidAt.own hr
    exact ⟨hb, _, ao, c1, 0, hc.symm, by rw [SkM.play_len], h2, fun h => absurd rfl h, fun _ => rfl⟩
theorem DidAt.dids {w : World} {ao : Option Addr} {l : List DidM} (h : DidAt w ao l) : DidsAt w ao l := by
  rcases h with h | ⟨b, h1, h2, h3⟩
  · exact Or.inl h
  · exact Or.inr ⟨b, 0, h1, h2, fun k hk => by
      obtain ⟨a, c⟩ := h3 k hk
      rw [Nat.zero_add]; exact ⟨a, c⟩⟩
def SkM.eight : List OpM := [⟨0, 1, 1⟩, ⟨0, 1, 2⟩, ⟨1, 1, 1⟩, ⟨1, 1, 2⟩, ⟨0, 2, 1⟩, ⟨1, 2, 2⟩, ⟨0, 3, 0⟩, ⟨1, 3, 0⟩]
theorem skew_eight (b cap : Nat) (w : World) (h : Blk w b 53 [.int .i64 0, .int .i64 1, .int .i64 1, .int .i64 0, .int .i64 1, .int .i64 2, .int .i64 1, .int .i64 1, .int .i64 1, .int .i64 1, .int .i64 1, .int .i64 2, .int .i64 0, .int .i64 2, .int .i64 1, .int .i64 1, .int .i64 2, .int .i64 2, .int .i64 0, .int .i64 3, .int .i64 0, .int .i64 1, .int .i64 3, .int .i64 0]) :
    Calls Try.prog 23 #[.slice (some ⟨b, 0, none⟩) 8 cap] w fun e w' => Below w.heap.size w w' ∧ ∃ g c1, e = .returned (.tuple #[.slice (some ⟨g, 0, none⟩) 8 c1, .int .i64 0]) ∧ g < w'.heap.size ∧ w'.cell? ⟨g, 12, none⟩ = some (.bool true) ∧ w'.cell? ⟨g, 14, none⟩ = some (.bool false) := by
  refine (skew_leftS SkM.eight (some ⟨b, 0, none⟩) cap w (Or.inr ⟨b, 0, rfl, h.lt, ?_⟩) ⟨by decide, by decide⟩).mono ?_
  · intro k hk
    match k, hk with
    | 0, _ => exact ⟨h.cell rfl, h.cell rfl, h.cell rfl⟩
    | 1, _ => exact ⟨h.cell rfl, h.cell rfl, h.cell rfl⟩
    | 2, _ => exact ⟨h.cell rfl, h.cell rfl, h.cell rfl⟩
    | 3, _ => exact ⟨h.cell rfl, h.cell rfl, h.cell rfl⟩
    | 4, _ => exact ⟨h.cell rfl, h.cell rfl, h.cell rfl⟩
    | 5, _ => exact ⟨h.cell rfl, h.cell rfl, h.cell rfl⟩
    | 6, _ => exact ⟨h.cell rfl, h.cell rfl, h.cell rfl⟩
    | 7, _ => exact ⟨h.cell rfl, h.cell rfl, h.cell rfl⟩
  · rintro e w' ⟨hb, D, ao, c1, c, hc, rfl, h1, _, h3⟩
    have : c = 0 := hc.trans (by decide)
    subst this
    have e4 : SkM.play SkM.eight = [⟨true, -1⟩, ⟨true, -1⟩, ⟨true, -1⟩, ⟨true, -1⟩, ⟨true, -1⟩, ⟨true, -1⟩, ⟨true, -1⟩, ⟨false, -1⟩] := by decide +kernel
    obtain rfl := (h3 rfl).trans e4
    obtain ⟨g, rfl, hg, hrow⟩ := h1.resolve_left (by simp)
    exact ⟨hb, g, c1, rfl, hg, (hrow 6 (by decide)).1, (hrow 7 (by decide)).1⟩

set_option maxRecDepth 20000 in
set_option maxHeartbeats 8000000 in
theorem skewSerial_calls (l : List OpM) (ao : Option Addr) (cap : Nat) (w : World) (h : OpsAt w ao l) (hf : RunM.Fits l) (_ : l.length ≤ cap) :
    Calls Try.prog 7 #[.slice ao l.length cap] w fun e w' => e = .returned (.bool true) ∧ Below w.heap.size w w' := by
  have H := box h; have Hf := box hf
  have hfl := hf.1
  clear h hf
  go_enter Try.func7, Try.ntmps7
  go_wp2_with fail
  refine (op_any _ _ _ _).mono ?_
  rintro e w1 ⟨rfl, hb1⟩
  have HB1 := box hb1; clear hb1
  go_wp2_with fail
  refine (op_any _ _ _ _).mono ?_
  rintro e w2 ⟨rfl, hb2⟩
  have HB2 := box (below_tr HB1.out hb2); clear hb2
  go_wp2_with fail
  refine (op_any _ _ _ _).mono ?_
  rintro e w3 ⟨rfl, hb3⟩
  have HB3 := box (below_tr HB2.out hb3); clear hb3
  go_wp2_with fail
  refine (op_any _ _ _ _).mono ?_
  rintro e w4 ⟨rfl, hb4⟩
  have HB4 := box (below_tr HB3.out hb4); clear hb4
  go_wp2_with fail
  refine (op_any _ _ _ _).mono ?_
  rintro e w5 ⟨rfl, hb5⟩
  have HB5 := box (below_tr HB4.out hb5); clear hb5
  go_wp2_with fail
  refine (op_any _ _ _ _).mono ?_
  rintro e w6 ⟨rfl, hb6⟩
  have HB6 := box (below_tr HB5.out hb6); clear hb6
  go_wp2_with fail
  refine (op_any _ _ _ _).mono ?_
  rintro e w7 ⟨rfl, hb7⟩
  have HB7 := box (below_tr HB6.out hb7); clear hb7
  go_wp2_with fail
  refine (op_any _ _ _ _).mono ?_
  rintro e w8 ⟨rfl, hb8⟩
  have HB8 := box (below_tr HB7.out hb8); clear hb8
  clear HB1 HB2 HB3 HB4 HB5 HB6 HB7
  go_wp2_with fail
  refine (skew_eight w8.heap.size 8 _ (Blk.new w8 [.int .i64 0, .int .i64 1, .int .i64 1, .int .i64 0, .int .i64 1, .int .i64 2, .int .i64 1, .int .i64 1, .int .i64 1, .int .i64 1, .int .i64 1, .int .i64 2, .int .i64 0, .int .i64 2, .int .i64 1, .int .i64 1, .int .i64 2, .int .i64 2, .int .i64 0, .int .i64 3, .int .i64 0, .int .i64 1, .int .i64 3, .int .i64 0] _)).mono ?_
  rintro e w9 ⟨hb9, g, c1, rfl, hg, hd1, hd2⟩
  have HB9 := box (below_tr (HB8.out.alloc HB8.out.size _) hb9); clear hb9 HB8
  go_wp2_with fail
  refine (skew_leftS l ao cap _ (H.out.below HB9.out (Nat.le_refl _)) Hf.out).mono ?_
  rintro e w10 ⟨hb10, D, dao, dc, c, hc, rfl, hat, hn0, h0D⟩
  have HB10 := box (below_tr HB9.out hb10)
  have HC := box hc; have HAT := box hat; have HN := box hn0; have HD := box h0D
  clear hb10 hc hat hn0 h0D hd1 hd2 HB9
  by_cases h0 : c = 0
  case neg =>
    have g1 : (c == 0) = false := by simp [h0]
    have g2 : (c != 0) = true := by simp [h0]
    obtain rfl := HN.out h0
    clear h0
    go_wp2_with fail
    go_ret
    exact ⟨by simp, HB10.out⟩
  subst h0
  have HOK := box (RunM.check_ok HC.out.symm)
  obtain rfl := HD.out rfl
  have hl200 := HOK.out.1
  have hDl : (SkM.play l).length = l.length := SkM.play_len l
  rw [hDl]
  have HOf := box (orderOf_any l (SkM.play l) ao dao cap dc w10 (H.out.below HB10.out (Nat.le_refl _)) HAT.out.dids hDl HC.out.symm)
  have HAll := box (fun s hT => Ss.all HC.out.symm (s := s) hT)
  have HBd := box (OfM.Bnd.run (l := l) (ds := SkM.play l) hl200 hDl HOK.out.2.2 l.length (Nat.le_refl _))
  clear HN HD HAT HC HOK hDl
  go_wp2_with fail
  refine HOf.out.mono ?_
  rintro e w11 ⟨hb11, s, hT, ⟨hok, hsto, rfl⟩ | ⟨hno, _⟩⟩
  case inr => exact absurd (HAll.out s hT).1 hno
  have HB11 := box (below_tr HB10.out hb11)
  have HOk := box hok; have HT := box hT
  have HSe := box (fun wx (hb : Below w11.heap.size w11 wx) => orderSerial_any s wx (hsto.below hb (Nat.le_refl _)) (by
    intro t ht
    obtain ⟨i, hi, rfl⟩ := List.mem_iff_getElem.1 ht
    have h1 := (hT.tl i hi).2
    rw [getElem!_pos s.tls i hi] at h1
    rw [h1]
    have := HBd.out.rd ((sortI (OfM.run l (SkM.play l) l.length).done)[i]!).toNat
    omega))
  have HOrd := box (HAll.out s hT).2
  clear hb11 hok hsto hT HOf HBd HB10 HT
  obtain ⟨n, HNn⟩ : ∃ n, Box (s.tls.length = n) := ⟨_, ⟨rfl⟩⟩
  obtain ⟨m, HM⟩ : ∃ m, Box (s.vrs.length = m) := ⟨_, ⟨rfl⟩⟩
  rw [HNn.out, HM.out] at HSe ⊢
  go_wp2_with fail
  refine (HSe.out _ ((Below.refl _ _).alloc (Nat.le_refl _) _)).mono ?_
  have hs11 := HB11.out.size
  have HBk := box (Blk.new w11 [.slice s.ta n s.tc, .slice s.ra m s.rc] 25)
  rintro e w12 ⟨hb12, ⟨hno, _⟩ | ⟨_, hno, _⟩ | ⟨_, r, v, ho, rfl, hown⟩⟩
  · exact absurd HOk.out hno
  · exact absurd hno HOrd.out
  obtain ⟨vo, vc, rfl, _, _, _, _⟩ := IntsAt.own hown
  have hlen := StoL.Topo.len HOk.out (StoL.topo HOk.out ho)
  rw [HNn.out] at hlen
  rw [hlen]
  have HB12 := box (below_tr (HB11.out.alloc hs11 _) hb12)
  have h0 := (HBk.out.after hb12).cell (i := 0) rfl
  clear hb12 hown ho hlen HOk HOrd HSe HBk HAll H Hf
  go_wp2_with fail
  go_ret
  exact ⟨by simp, HB12.out⟩
namespace lawSkewSerial
open Go.ChangeShapes Go.WideShapes Go.ChangeAt Go.RowKit Go.ChangeMaps

set_option maxRecDepth 100000 in
theorem lifted (os : Os) (started : os.Started) (H : Type) (enc : TypeId × Value → H) :
    ReturnsInHanded {} Try.checked os 7 .any (Rows.skewSerialSpec.pre6 enc Try.prog Try.f7 [] false) (Rows.skewSerialSpec.post enc Try.prog Try.f7 false true false false) := by
  refine LawKit.law_lifted started (by kernel_rfl) Try.func7 rfl
    (fun ds h => by
      match ds, h with
      | [_], _ => rfl)
    rfl Try.underlying4 (by intro t ht; exact of_decide_eq_true (p := Try.prog.readableRec t = true ∧ t < Try.prog.types.size) (by revert t ht; decide +kernel))
    (ChangeSpec.witness6 (enc := enc) (C := Try.checked) false ⟨#[], #[.slice none 0 0], []⟩ 8 (by kernel_rfl) (by kernel_rfl) (by kernel_rfl) (by kernel_rfl)) ?_
  intro W base args ds ps hval hA hsz hlt hfz
  have hA' := hA
  rw [Try.params7] at hA hval
  obtain ⟨v0, vs0, d0, ds0, p0, q0, hargs, rfl, rfl, h0, r0⟩ := trodAll_cons hA
  obtain ⟨rfl, rfl, rfl⟩ := trodAll_nil r0
  obtain rfl : args = #[v0] := by cases args; simp_all
  obtain ⟨ao, cap, ls, rfl, hnil, hat, hfits, hlc, _⟩ := open_ops (hval 0 _ _ rfl rfl) h0 (Open.weights_bound hsz (j := 0) (by rw [Try.params7]; rfl) rfl)
  refine (skewSerial_calls ls ao cap W hat hfits hlc).mono ?_
  rintro e W' ⟨rfl, hb⟩
  exact ⟨rfl, hb⟩

theorem proved : Rows.SkewSerialSaid :=
  OpenClaim.holds_of_wide 7 Try.f7 rfl rfl rfl rfl rfl rfl rfl ⟨rfl, rfl, rfl, rfl, rfl⟩ rfl rfl rfl rfl rfl (by kernel_rfl) Try.func7 (by kernel_rfl)
    (of_decide_eq_true (by kernel_rfl)) (by unfold Func.isWrapper; first | (rw [if_pos (by decide +kernel)]; kernel_rfl) | (rw [if_neg (by decide +kernel)]; exact ⟨rfl, rfl⟩))
    (fun os started H enc _ => lifted os started H enc)
end lawSkewSerial
end Go.Proofs.Ytgkclgmekbgjmaa
