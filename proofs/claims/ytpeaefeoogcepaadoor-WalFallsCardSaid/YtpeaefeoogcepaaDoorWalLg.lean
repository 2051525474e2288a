/- logged: a log on a disk of its own. -/
import Derived.Test.YtpeaefeoogcepaaDoorWalI5
import Derived.Test.YtpeaefeoogcepaaDoorSectN
namespace Go.Proofs.YtpeaefeoogcepaaDoor
open Go.RowKit Go.Lib
open WalM

set_option maxRecDepth 20000 in
set_option maxHeartbeats 4000000 in
theorem logged_any (w : World) :
    Calls Tryd.prog 5 #[] w fun e w' => ∃ (D Lb : Nat) (vs ve vl : Value) (d : DiskM) (l : LogM), e = .returned (.tuple #[.pointer (some ⟨D, 0, none⟩), .pointer (some ⟨Lb, 0, none⟩), .bool true]) ∧ Norm d l [] 0 ∧ d.left = -1 ∧ l.ep = 1 ∧ Below w.heap.size w w' ∧ LogIn w' w.heap.size D vs ve vl d 24 Lb l := by
  have HN := box (sectNew_any 24 w (by omega) (by omega))
  go_enter Tryd.func5, Tryd.ntmps5
  go_wp2_with fail
  refine HN.out.mono ?_
  rintro e w1 ⟨hb1, vs, ve, rfl, hat⟩
  have HB1 := box hb1
  have HAt := box hat
  clear hb1 hat HN
  obtain ⟨d2, l, ho, hn, hleft, hep⟩ := open_new
  have HNo := box hn
  have HLe := box hleft
  have HEp := box hep
  clear hleft hep
  have HO := box (walOpen_any w1 w.heap.size w.heap.size vs ve (.slice none 0 0) (SectM.start 24) 24 HAt.out (SectM.start_good 24) HB1.out.size (by omega) (by omega) (by decide) (by decide) 2 20 (by omega) (by omega))
  rw [ho] at HO
  clear ho hn
  obtain ⟨D, HD⟩ : ∃ x, Box (w.heap.size = x) := ⟨_, ⟨rfl⟩⟩
  rw [HD.out] at HAt HO ⊢
  go_wp2_with fail
  refine HO.out.mono ?_
  rintro e w2 ⟨vl', hm, Lb, v, rfl, hL1, hL2, hL3, hown⟩
  have HM := box hm
  have HB2 : Box (Below w.heap.size w w2) := ⟨HB1.out.trans (HM.out.kept.below HB1.out.size (fun b hb => by rw [HD.out]; exact (HAt.out.mine_lt hb).1))⟩
  have hsz : D ≤ w1.heap.size := by rw [← HD.out]; exact HB1.out.size
  have hsz2 := HB2.out.size
  rw [HD.out] at HB2 hsz2
  have HF : Box (LogIn w2 D D vs ve vl' d2 24 Lb l) := ⟨HM.out.at_, HNo.out.good, hL2, hL3, by omega, by omega, by omega, by have := HNo.out.late; have := HNo.out.at_le; omega, hsz2⟩
  obtain ⟨va, vc, rfl⟩ : ∃ (g : Option Addr) (gc : Nat), v = .slice g 0 gc := by
    rcases hown.2 with ⟨h, h0⟩ | ⟨g, cap, cur, h, _⟩
    · exact ⟨none, 0, h⟩
    · exact ⟨_, _, h⟩
  clear hm HM hL1 hL2 hL3 hown hsz hsz2 HO HAt HB1
  go_wp2_with fail
  go_ret3
  exact ⟨D, Lb, vs, ve, vl', d2, l, rfl, HNo.out, HLe.out, HEp.out, by rw [HD.out]; exact HB2.out, by rw [HD.out]; exact HF.out⟩
end Go.Proofs.YtpeaefeoogcepaaDoor
