/- LeafOwn is proved for every input: no condition stands ahead of it. -/
import Derived.Test.YtnolidjjeknmmaaLawKit
import Derived.Test.YtnolidjjeknmmaaLeafOwnW
import Derived.Test.YtnolidjjeknmmaaLeafOpen
import Derived.Deep.RegionHeld3
import Derived.Deep.CutBlock
namespace Go.Proofs.Ytnolidjjeknmmaa
open Go.RowKit Go.Lib

theorem SlotAmple.own {w : World} {base g : Nat} {ls : List (Bool × ByteArray)} {f : Bool × ByteArray} (h : SlotAmple w base g ls f) : ∃ ys, w.ownsRow base 54 2 (.slice (some ⟨g, 0, none⟩) ls.length (ls.length + 3)) ls.length ys := by
  rcases h.2 with ⟨h1, _⟩ | ⟨g', cap', cur, h1, h2, h3, h4, h5, h6, h7⟩
  · cases h1
  · simp only [Value.slice.injEq, Option.some.injEq, Addr.mk.injEq, and_true, true_and] at h1
    obtain ⟨rfl, rfl⟩ := h1
    exact ⟨cur.toList.take (ls.length * 2), by rw [List.length_take]; have e : cur.toList.length = cur.size := rfl; omega, Or.inr ⟨g, _, cur, rfl, h2, h3, by omega, h5, h6, rfl⟩⟩

/-- What the law keeps from its first call on: the argument, the filling, the page that it hands in. -/
structure LOwn (X : World) (ao : Option Addr) (cap n Bp Bf Bi g b : Nat) (ls : List (Bool × ByteArray)) : Prop where
  p : Blk X Bp 50 [.slice ao n cap]
  f : Blk X Bf 54 [.bool true, .string ⟨#[33]⟩]
  i : Blk X Bi 50 [.slice (some ⟨g, 0, none⟩) n (n + 3)]
  s : SlotAmple X b g ls (true, ⟨#[33]⟩)
theorem LOwn.after {X X' : World} {ao : Option Addr} {cap n Bp Bf Bi g b : Nat} {ls : List (Bool × ByteArray)} (h : LOwn X ao cap n Bp Bf Bi g b ls) (hb : Below X.heap.size X X') : LOwn X' ao cap n Bp Bf Bi g b ls := ⟨h.p.after hb, h.f.after hb, h.i.after hb, h.s.after hb⟩
theorem LOwn.alloc {X : World} {ao : Option Addr} {cap n Bp Bf Bi g b : Nat} {ls : List (Bool × ByteArray)} (h : LOwn X ao cap n Bp Bf Bi g b ls) (o : Obj) : LOwn (X.alloc o) ao cap n Bp Bf Bi g b ls := h.after ((Below.refl _ _).alloc (Nat.le_refl _) o)

set_option maxRecDepth 20000 in
set_option maxHeartbeats 16000000 in
theorem leafOwn_calls (ls : List (Bool × ByteArray)) (ao : Option Addr) (cap : Nat) (t : ByteArray) (k : Int) (w : World) (h : LeafM.At w ao ls) (hf : LeafM.Fits ls) (hnil : ao = none → cap = 0) (hn : ls.length ≤ 5864062014900) :
    Calls Try.prog 7 #[.agg #[.slice ao ls.length cap], .string t, .int .i64 k] w fun e w' => e = .returned (.bool true) ∧ Below w.heap.size w w' := by
  have HPx := box (fun w => put_x w)
  have HAm : Box (∀ wx, Below w.heap.size w wx → _) := ⟨fun wx hx => ampleSlots_any ls (true, ⟨#[33]⟩) ao cap wx (h.below hx (Nat.le_refl _)) hnil hn⟩
  have HPut : Box (∀ (X : World) (b g : Nat), SlotAmple X b g ls (true, ⟨#[33]⟩) → _) := ⟨fun X b g hs => put_got ls (some ⟨g, 0, none⟩) (ls.length + 3) t X hs.at_ hf (fun e => by cases e)⟩
  have HDrop : Box (∀ (X : World) (b g : Nat), SlotAmple X b g ls (true, ⟨#[33]⟩) → _) := ⟨fun X b g hs => drop_got ls (some ⟨g, 0, none⟩) (ls.length + 3) k X hs.at_ hf (fun e => by cases e)⟩
  have HText : Box (∀ (X : World) (b g : Nat), SlotAmple X b g ls (true, ⟨#[33]⟩) → _) := ⟨fun X b g hs => text_any ls (some ⟨g, 0, none⟩) (ls.length + 3) X hs.at_ hf⟩
  have HStay : Box (∀ (X : World) (b g : Nat), Below w.heap.size w X → SlotAmple X b g ls (true, ⟨#[33]⟩) → _) := ⟨fun X b g hx hs => staysSlots_any ls (true, ⟨#[33]⟩) ao cap g b X (h.below hx (Nat.le_refl _)) hs hn⟩
  have HOwn : Box (∀ (X : World) (b g : Nat), SlotAmple X b g ls (true, ⟨#[33]⟩) → ∃ ys, X.ownsRow b 54 2 (.slice (some ⟨g, 0, none⟩) ls.length (ls.length + 3)) ls.length ys) := ⟨fun X b g hs => hs.own⟩
  clear h hf hnil
  obtain ⟨n, HN⟩ : ∃ x, Box (ls.length = x) := ⟨_, ⟨rfl⟩⟩
  rw [HN.out] at HAm HPut HDrop HText HStay HOwn hn ⊢
  go_enter Try.func7, Try.ntmps7
  go_upto_region 1 with (fail)
  obtain ⟨Bp, HBp⟩ : ∃ x, Box (w.heap.size = x) := ⟨_, ⟨rfl⟩⟩
  refine name_world (fun W => Below w.heap.size w W ∧ Blk W w.heap.size 50 [.slice ao n cap]) ⟨(Below.refl _ _).alloc (Nat.le_refl _) _, Blk.new _ _ _⟩ ?_
  rintro W ⟨hbW, hpW⟩
  rw [HBp.out] at hpW ⊢
  have HBW := box hbW; have HP := box hpW
  clear hbW hpW
  go_wp2_with fail
  refine (HPx.out W).mono ?_
  rintro e w1 ⟨g1, c1, rfl, hb1⟩
  have HB1 := box (below_tr HBW.out hb1); have HP1 := box (HP.out.after hb1)
  clear hb1 HP
  go_upto_region 5 with (fail)
  obtain ⟨Bf, HBf⟩ : ∃ x, Box (w1.heap.size + 1 = x) := ⟨_, ⟨rfl⟩⟩
  refine name_world (fun X => Below w.heap.size w X ∧ Blk X Bp 50 [.slice ao n cap] ∧ Blk X (w1.heap.size + 1) 54 [.bool true, .string ⟨#[33]⟩]) ⟨(HB1.out.alloc HB1.out.size _).alloc (by have := HB1.out.size; simp; omega) _, (HP1.out.alloc _).alloc _, Blk.new' (by simp) _ _⟩ ?_
  rintro W2 ⟨hb2, hp2, hf2⟩
  rw [HBf.out] at hf2 ⊢
  have HB2 := box hb2; have HP2 := box hp2; have HF2 := box hf2
  have y0 := hp2.cell (i := 0) rfl
  have y1 := hf2.cell (i := 0) rfl
  have y2 := hf2.cell (i := 1) rfl
  clear hb2 hp2 hf2 HP1
  go_wp2_with fail
  refine (HAm.out _ HB2.out).mono ?_
  rintro e w3 ⟨⟨g, rfl, hg1, hg2, hA⟩, hb3⟩
  have HB3 := box (below_tr HB2.out hb3); have HP3 := box (HP2.out.after hb3); have HF3 := box (HF2.out.after hb3); have HA3 := box hA
  clear hb3 hA HP2 HF2 y0 y1 y2
  go_upto_region 6 with (fail)
  obtain ⟨Bi, HBi⟩ : ∃ x, Box (w3.heap.size = x) := ⟨_, ⟨rfl⟩⟩
  obtain ⟨b, Hb⟩ : ∃ x, Box (W2.heap.size = x) := ⟨_, ⟨rfl⟩⟩
  rw [Hb.out] at HA3 hg1
  refine name_world (fun X => Below w.heap.size w X ∧ g < X.heap.size ∧ LOwn X ao cap n Bp Bf w3.heap.size g b ls) ⟨HB3.out.alloc HB3.out.size _, by simp; omega, ⟨HP3.out.alloc _, HF3.out.alloc _, Blk.new _ _ _, HA3.out.after ((Below.refl _ _).alloc (Nat.le_refl _) _)⟩⟩ ?_
  rintro W4 ⟨hb4, hg4, ho4⟩
  rw [HBi.out] at ho4 ⊢
  have HB4 := box hb4; have HO4 := box ho4; have HG4 := box hg4
  have x0 := ho4.i.cell (i := 0) rfl
  clear hb4 ho4 hg4 HP3 HF3 HA3 hg2
  go_wp2_with fail
  refine (HPut.out W4 b g HO4.out.s).mono ?_
  rintro e w5 ⟨⟨a1, ca1, l1, i1, e1, rfl, hs1⟩, hb5⟩
  obtain ⟨n1, HN1⟩ : ∃ x, Box (l1.length = x) := ⟨_, ⟨rfl⟩⟩
  rw [HN1.out]
  have HB5 := box (below_tr HB4.out hb5); have HO5 := box (HO4.out.after hb5); have HS5 := box hs1; have HZ5 := box hb5.size
  clear hb5 hs1 x0 HO4
  go_upto_region 7 with (fail)
  obtain ⟨Ba, HBa⟩ : ∃ x, Box (w5.heap.size = x) := ⟨_, ⟨rfl⟩⟩
  obtain ⟨b4, Hb4⟩ : ∃ x, Box (W4.heap.size = x) := ⟨_, ⟨rfl⟩⟩
  rw [Hb4.out] at HG4 HS5
  refine name_world (fun X => Below w.heap.size w X ∧ LOwn X ao cap n Bp Bf Bi g b ls ∧ SlGot X b4 a1 ca1 l1 ∧ Blk X w5.heap.size 50 [.slice a1 n1 ca1] ∧ b4 ≤ X.heap.size) ⟨HB5.out.alloc HB5.out.size _, HO5.out.alloc _, HS5.out.alloc _, Blk.new _ _ _, by have := HZ5.out; have := Hb4.out; simp; omega⟩ ?_
  rintro W6 ⟨hb6, ho6, hs6, hx6, hsz6⟩
  rw [HBa.out] at hx6 ⊢
  have HB6 := box hb6; have HO6 := box ho6; have HS6 := box hs6; have HX6 := box hx6; have HZ6 := box hsz6
  have x0 := ho6.i.cell (i := 0) rfl
  clear hb6 ho6 hs6 hx6 hsz6 HO5 HS5
  go_wp2_with fail
  refine (HDrop.out W6 b g HO6.out.s).mono ?_
  rintro e w7 ⟨⟨a2, ca2, l2, e2, rfl, hs2⟩, hb7⟩
  obtain ⟨n2, HN2⟩ : ∃ x, Box (l2.length = x) := ⟨_, ⟨rfl⟩⟩
  rw [HN2.out]
  have HB7 := box (below_tr HB6.out hb7); have HO7 := box (HO6.out.after hb7); have HS7 := box (HS6.out.after hb7); have HX7 := box (HX6.out.after hb7); have HT7 : Box (SlGot w7 b4 a2 ca2 l2) := ⟨⟨hs2.at_, hs2.nil, fun bb off r e => Nat.le_trans HZ6.out (hs2.old bb off r e), hs2.len⟩⟩
  have HZ7 := box hb7.size
  clear hb7 hs2 x0 HO6 HS6 HX6
  go_upto_region 8 with (fail)
  obtain ⟨Bb, HBb⟩ : ∃ x, Box (w7.heap.size = x) := ⟨_, ⟨rfl⟩⟩
  refine name_world (fun X => Below w.heap.size w X ∧ LOwn X ao cap n Bp Bf Bi g b ls ∧ SlGot X b4 a1 ca1 l1 ∧ Blk X Ba 50 [.slice a1 n1 ca1] ∧ SlGot X b4 a2 ca2 l2 ∧ Blk X w7.heap.size 50 [.slice a2 n2 ca2] ∧ b4 ≤ X.heap.size) ⟨HB7.out.alloc HB7.out.size _, HO7.out.alloc _, HS7.out.alloc _, HX7.out.alloc _, HT7.out.alloc _, Blk.new _ _ _, by have := HZ6.out; have := HZ7.out; simp; omega⟩ ?_
  rintro W8 ⟨hb8, ho8, hs8, hx8, ht8, hy8, hz8⟩
  rw [HBb.out] at hy8 ⊢
  have HB8 := box hb8; have HO8 := box ho8; have HS8 := box hs8; have HX8 := box hx8; have HT8 := box ht8; have HY8 := box hy8; have HZ8 := box hz8
  have x0 := ho8.i.cell (i := 0) rfl
  clear hb8 ho8 hs8 hx8 ht8 hy8 hz8 HO7 HS7 HX7 HT7
  go_wp2_with fail
  refine (HText.out W8 b g HO8.out.s).mono ?_
  rintro e w9 ⟨rfl, hb9⟩
  have HB9 := box (below_tr HB8.out hb9); have HO9 := box (HO8.out.after hb9); have HS9 := box (HS8.out.after hb9); have HX9 := box (HX8.out.after hb9); have HT9 := box (HT8.out.after hb9); have HY9 := box (HY8.out.after hb9); have HZ9 := box (Nat.le_trans HZ8.out hb9.size)
  clear hb9 x0 HO8 HS8 HX8 HT8 HY8
  generalize LeafM.textV ls = tv at *
  have x0 := HO9.out.i.cell (i := 0) rfl
  have x1 := HO9.out.p.cell (i := 0) rfl
  have x2 := HO9.out.f.cell (i := 0) rfl
  have x3 := HO9.out.f.cell (i := 1) rfl
  go_wp2_with fail
  refine (HStay.out w9 b g HB9.out HO9.out.s).mono ?_
  rintro e wA ⟨rfl, hbA⟩
  have HBA := box (below_tr HB9.out hbA); have HOA := box (HO9.out.after hbA); have HSA := box (HS9.out.after hbA); have HXA := box (HX9.out.after hbA); have HTA := box (HT9.out.after hbA); have HYA := box (HY9.out.after hbA); have HZA := box (Nat.le_trans HZ9.out hbA.size)
  clear hbA x0 x1 x2 x3 HO9 HS9 HX9 HT9 HY9
  go_upto_region 11 with (fail)
  have z1 := HXA.out.cell (i := 0) rfl
  have z2 := HYA.out.cell (i := 0) rfl
  have HSp : Box (∀ wx, Below wA.heap.size wA wx → wx.cell? ⟨Ba, 0, none⟩ = some (.slice a1 n1 ca1) ∧ wx.cell? ⟨Bb, 0, none⟩ = some (.slice a2 n2 ca2)) := ⟨fun wx h => ⟨(HXA.out.after h).cell rfl, (HYA.out.after h).cell rfl⟩⟩
  have HC1 : Box (∀ X, Below wA.heap.size wA X → Calls Try.prog 32 #[.slice a1 n1 ca1] X fun e w' => (∃ a c, e = .returned (.slice a n1 c) ∧ SlGot w' b4 a c l1) ∧ Below X.heap.size X w') := ⟨fun X hX => by
    have h := clone_got l1 a1 ca1 X (HSA.out.after hX).at_ HSA.out.nil HSA.out.len
    unfold LeafM.CloneGot at h
    rw [HN1.out] at h
    exact h.mono (fun e w' ⟨⟨a, c, h1, h2⟩, h3⟩ => ⟨⟨a, c, h1, ⟨h2.at_, h2.nil, fun bb off r e => Nat.le_trans (Nat.le_trans HZA.out hX.size) (h2.old bb off r e), h2.len⟩⟩, h3⟩)⟩
  have HC2 : Box (∀ X, Below wA.heap.size wA X → Calls Try.prog 32 #[.slice a2 n2 ca2] X fun e w' => (∃ a c, e = .returned (.slice a n2 c) ∧ SlGot w' b4 a c l2) ∧ Below X.heap.size X w') := ⟨fun X hX => by
    have h := clone_got l2 a2 ca2 X (HTA.out.after hX).at_ HTA.out.nil HTA.out.len
    unfold LeafM.CloneGot at h
    rw [HN2.out] at h
    exact h.mono (fun e w' ⟨⟨a, c, h1, h2⟩, h3⟩ => ⟨⟨a, c, h1, ⟨h2.at_, h2.nil, fun bb off r e => Nat.le_trans (Nat.le_trans HZA.out hX.size) (h2.old bb off r e), h2.len⟩⟩, h3⟩)⟩
  go_cut [17, 18] (fun t17 t18 wx => ∃ x1 d1 x2 d2, t17 = .slice x1 n1 d1 ∧ t18 = .slice x2 n2 d2 ∧ SlGot wx b4 x1 d1 l1 ∧ SlGot wx b4 x2 d2 l2 ∧ Below wA.heap.size wA wx)
  case first =>
    go_region_held3 (fun w' => w'.cell? ⟨Ba, 0, none⟩ = some (.slice a1 n1 ca1) ∧ w'.cell? ⟨Bb, 0, none⟩ = some (.slice a2 n2 ca2)) (first | exact ⟨z1, z2⟩ | assumption | (refine HSp.out _ ?_; (repeat (first | exact HW8.out | exact HW9.out | exact Below.refl _ _ | refine Below.drew ?_)))) (first
      | (go_at_call 32; refine (HC1.out _ (by (repeat (first | exact HW8.out | exact HW9.out | exact Below.refl _ _ | refine Below.drew ?_)))).mono ?_; rintro e w8 ⟨⟨x1, d1, rfl, hq⟩, hb8⟩; have HW8 : Box (Below wA.heap.size wA w8) := ⟨below_tr (by (repeat (first | exact HW8.out | exact HW9.out | exact Below.refl _ _ | refine Below.drew ?_))) hb8⟩; have HQ1 := box hq; (try (have HQ2b := box (HQ2.out.after hb8))); clear hq hb8)
      | (go_at_call 32; refine (HC2.out _ (by (repeat (first | exact HW8.out | exact HW9.out | exact Below.refl _ _ | refine Below.drew ?_)))).mono ?_; rintro e w9 ⟨⟨x2, d2, rfl, hq⟩, hb9⟩; have HW9 : Box (Below wA.heap.size wA w9) := ⟨below_tr (by (repeat (first | exact HW8.out | exact HW9.out | exact Below.refl _ _ | refine Below.drew ?_))) hb9⟩; have HQ2 := box hq; (try (have HQ1b := box (HQ1.out.after hb9))); clear hq hb9)
      | fail)
    all_goals
      go_step
      go_step
      go_meet
      first
        | exact ⟨_, _, _, _, rfl, rfl, HQ1b.out, HQ2.out, HW9.out⟩
        | exact ⟨_, _, _, _, rfl, rfl, HQ1.out, HQ2b.out, HW8.out⟩
  case rest =>
  obtain ⟨x1, d1, x2, d2, rfl, rfl, hq1, hq2, hbB⟩ := hcut
  have HBB := box (below_tr HBA.out hbB); have HOB := box (HOA.out.after hbB); have HSB := box (HSA.out.after hbB); have HXB := box (HXA.out.after hbB); have HTB := box (HTA.out.after hbB); have HYB := box (HYA.out.after hbB); have HQ1 := box hq1; have HQ2 := box hq2
  clear hq1 hq2 hbB z1 z2 HSp HC1 HC2 HOA HSA HXA HTA HYA
  have x0 := HOB.out.i.cell (i := 0) rfl
  go_wp2_with fail
  obtain ⟨ys, hys⟩ := HOwn.out wc b g HOB.out.s
  have HSl := box (spoilSlots_any b g n (n + 3) (false, ⟨#[]⟩) ys wc hys (by omega))
  clear hys
  refine HSl.out.mono ?_
  rintro e wD ⟨rfl, hgr⟩
  have t0 : 50 ≠ 54 := by decide
  have kx := HXB.out.ne_own HOB.out.s t0
  have ky := HYB.out.ne_own HOB.out.s t0
  have HBD := box (HBB.out.grown hgr HBB.out.size (fun j hj => by injection hj with hj; have := HB2.out.size; have := Hb.out; omega))
  have HSD := box (HSB.out.grown hgr HG4.out); have HTD := box (HTB.out.grown hgr HG4.out); have HQ1D := box (HQ1.out.grown hgr HG4.out); have HQ2D := box (HQ2.out.grown hgr HG4.out)
  have HXD := box (HXB.out.grown hgr kx); have HYD := box (HYB.out.grown hgr ky)
  clear hgr kx ky x0 HSl HOB HSB HTB HQ1 HQ2 HXB HYB
  have z1 := HXD.out.cell (i := 0) rfl
  have HE1 := box (equalSlots_same l1 a1 x1 ca1 d1 wD HSD.out.at_ HQ1D.out.at_ (by have := HSD.out.len; omega))
  rw [HN1.out] at HE1
  go_wp2_with fail
  refine HE1.out.mono ?_
  rintro e wE ⟨rfl, k1, rfl⟩
  have hbE : Below wD.heap.size wD (wD.drewN k1) := ⟨rfl, rfl, rfl, Nat.le_refl _, fun _ _ => rfl⟩
  have HBE := box (below_tr HBD.out hbE); have HTE := box (HTD.out.after hbE); have HQE := box (HQ2D.out.after hbE)
  have z2 := (HYD.out.after hbE).cell (i := 0) rfl
  generalize wD.drewN k1 = wE at *
  clear hbE z1
  have HE2 := box (equalSlots_same l2 a2 x2 ca2 d2 wE HTE.out.at_ HQE.out.at_ (by have := HTE.out.len; omega))
  rw [HN2.out] at HE2
  go_wp2_with fail
  refine HE2.out.mono ?_
  rintro e wF ⟨rfl, k2, rfl⟩
  go_wp2_with fail
  go_ret
  exact ⟨rfl, HBE.out.trans ⟨rfl, rfl, rfl, Nat.le_refl _, fun _ _ => rfl⟩⟩
namespace lawLeafOwn
open Go.ChangeShapes Go.WideShapes Go.ChangeAt Go.RowKit Go.ChangeMaps

set_option maxRecDepth 100000 in
theorem lifted (os : Os) (started : os.Started) (H : Type) (enc : TypeId × Value → H) :
    ReturnsInHanded {} Try.checked os 7 .any (Rows.leafOwnSpec.pre6 enc Try.prog Try.f7 [] false) (Rows.leafOwnSpec.post enc Try.prog Try.f7 false true false false) := by
  refine LawKit.law_lifted started (by kernel_rfl) Try.func7 rfl
    (fun ds h => by
      match ds, h with
      | [_, _, _], _ => rfl)
    rfl Try.underlying4 (by intro t ht; exact of_decide_eq_true (p := Try.prog.readableRec t = true ∧ t < Try.prog.types.size) (by revert t ht; decide +kernel))
    (ChangeSpec.witness6 (enc := enc) (C := Try.checked) false ⟨#[], #[.agg #[.slice none 0 0], .string ⟨#[]⟩, .int .i64 0], []⟩ 8 (by kernel_rfl) (by kernel_rfl) (by kernel_rfl) (by kernel_rfl)) ?_
  intro W base args ds ps hval hA hsz hlt hfz
  have hA' := hA
  rw [Try.params7] at hA hval
  obtain ⟨v0, vs0, d0, ds0, p0, q0, hargs, rfl, rfl, h0, r0⟩ := trodAll_cons hA
  obtain ⟨v1, vs1, d1, ds1, p1, q1, rfl, rfl, rfl, h1, r1⟩ := trodAll_cons r0
  obtain ⟨v2, vs2, d2, ds2, p2, q2, rfl, rfl, rfl, h2, r2⟩ := trodAll_cons r1
  obtain ⟨rfl, rfl, rfl⟩ := trodAll_nil r2
  obtain rfl : args = #[v0, v1, v2] := by cases args; simp_all
  go_open 1 text
  have hsz_text : text.size ≤ reachBytes := by have h := sized_string hsz (j := 1) (by rw [Try.params7]; rfl) rfl; rw [Array.length_toList] at h; exact h
  go_open 2 k
  obtain ⟨ao, cap, ls, rfl, hnil, hat, hfits, hlc, hc24⟩ := open_leaf (hval 0 _ _ rfl rfl) h0 (Open.weights_bound hsz (j := 0) (by rw [Try.params7]; rfl) rfl)
  refine (leafOwn_calls ls ao cap text k W hat hfits hnil (by omega)).mono ?_
  rintro e W' ⟨rfl, hb⟩
  exact ⟨rfl, hb⟩

theorem proved : Rows.LeafOwnSaid :=
  OpenClaim.holds_of_wide 7 Try.f7 rfl rfl rfl rfl rfl rfl rfl ⟨rfl, rfl, rfl, rfl, rfl⟩ rfl rfl rfl rfl rfl (by kernel_rfl) Try.func7 (by kernel_rfl)
    (of_decide_eq_true (by kernel_rfl)) (by unfold Func.isWrapper; first | (rw [if_pos (by decide +kernel)]; kernel_rfl) | (rw [if_neg (by decide +kernel)]; exact ⟨rfl, rfl⟩))
    (fun os started H enc _ => lifted os started H enc)
end lawLeafOwn
end Go.Proofs.Ytnolidjjeknmmaa
