/- wait.Victims: what it computes. -/
import Derived.Test.YtnnkejolfhhmlaaVicM
import Derived.Test.YtnnkejolfhhmlaaEgClone
import Derived.Test.YtnnkejolfhhmlaaEgDel
import Derived.Test.YtnnkejolfhhmlaaIntSort
import Derived.Test.YtnnkejolfhhmlaaGrOR
namespace Go.Proofs.Ytnnkejolfhhmlaa
open Go.RowKit Go.Lib

/-- A row of ints in blocks from lo on. -/
def IntsIn (w : World) (lo : Nat) (ao : Option Addr) (l : List Int) : Prop :=
  l = [] ∨ ∃ b off, ao = some ⟨b, off, none⟩ ∧ lo ≤ b ∧ b < w.heap.size ∧ ∀ k (h : k < l.length), w.cell? ⟨b, off + k, none⟩ = some (.int .i64 l[k])
theorem IntsIn.at {w : World} {lo : Nat} {ao : Option Addr} {l : List Int} (h : IntsIn w lo ao l) : IntsAt w ao l := h.imp id fun ⟨b, off, h1, _, h3, h4⟩ => ⟨b, off, h1, h3, h4⟩
theorem cell_same {w w' : World} {b : Nat} (h : w'.heap[b]? = w.heap[b]?) (i : Nat) (x) : w'.cell? ⟨b, i, x⟩ = w.cell? ⟨b, i, x⟩ := by
  simp only [World.cell?, h]
theorem IntsIn.keep {w w' : World} {lo : Nat} {ao : Option Addr} {l : List Int} (h : IntsIn w lo ao l) (hk : ∀ b, lo ≤ b → b < w.heap.size → w'.heap[b]? = w.heap[b]?) (hs : w.heap.size ≤ w'.heap.size) : IntsIn w' lo ao l :=
  h.imp id fun ⟨b, off, h1, h2, h3, h4⟩ => ⟨b, off, h1, h2, by omega, fun k hl => (cell_same (hk b h2 h3) _ _).trans (h4 k hl)⟩
theorem IntsIn.own {w : World} {base n : Nat} {v : Value} {l : List Int} (h : w.ownsRow base 3 1 v n (intVals l)) : ∃ ao cap, v = .slice ao l.length cap ∧ IntsIn w base ao l := by
  obtain ⟨ao, cap, rfl, _, hat, _, _⟩ := IntsAt.own h
  refine ⟨ao, cap, rfl, hat.imp id fun ⟨b, off, h1, h2, h3⟩ => ⟨b, off, h1, ?_, h2, h3⟩⟩
  subst h1
  exact (h.lt b rfl).1
/-- The parts, in blocks from lo on. -/
structure VicM.PartsIn (w : World) (lo : Nat) (P : List (List Nat)) (pa : Option Addr) (v : Nat → Value) : Prop where
  row : ∀ i (h : i < P.length), ∃ g, pa = some ⟨g, 0, none⟩ ∧ lo ≤ g ∧ g < w.heap.size ∧ w.cell? ⟨g, i, none⟩ = some (v i) ∧ ∃ a c, v i = .slice a P[i].length c ∧ IntsIn w lo a (GrM.ints P[i])
theorem VicM.PartsIn.keep {w w' : World} {lo : Nat} {P : List (List Nat)} {pa : Option Addr} {v : Nat → Value} (h : VicM.PartsIn w lo P pa v) (hk : ∀ b, lo ≤ b → b < w.heap.size → w'.heap[b]? = w.heap[b]?) (hs : w.heap.size ≤ w'.heap.size) : VicM.PartsIn w' lo P pa v :=
  ⟨fun i hi => by
    obtain ⟨g, h1, h2, h3, h4, a, c, h5, h6⟩ := h.row i hi
    exact ⟨g, h1, h2, by omega, (cell_same (hk g h2 h3) _ _).trans h4, a, c, h5, h6.keep hk hs⟩⟩
theorem VicM.partsIn {w : World} {base : Nat} {P : List (List Nat)} {v : Nat → Value} {pv : Value} (hT : w.ownsRow base 23 1 pv P.length ((List.range P.length).map v)) (hR : ∀ i (h : i < P.length), w.ownsRow base 3 1 (v i) (P[i]).length (intVals (GrM.ints P[i]))) :
    ∃ pa pc, pv = .slice pa P.length pc ∧ VicM.PartsIn w base P pa v := by
  rcases hT.2 with ⟨h1, h2⟩ | ⟨g, cap, cur, h1, hlo, h3, _⟩
  · exact ⟨none, 0, by rw [h1, h2], ⟨fun i hi => by omega⟩⟩
  · refine ⟨some ⟨g, 0, none⟩, cap, h1, ⟨fun i hi => ⟨g, rfl, hlo, (Array.getElem?_eq_some_iff.1 h3).1, ?_, ?_⟩⟩⟩
    · have hT2 := hT
      rw [h1] at hT2
      rw [hT2.cellAt i (by omega)]
      simp [hi]
    · obtain ⟨a, c, e, hat⟩ := IntsIn.own (hR i hi)
      exact ⟨a, c, by rw [e]; simp [GrM.ints], hat⟩
theorem owns_apart {w : World} {b1 e1 s1 n1 b2 e2 s2 n2 : Nat} {v1 v2 : Value} {x1 x2 : List Value} (h1 : w.ownsRow b1 e1 s1 v1 n1 x1) (h2 : w.ownsRow b2 e2 s2 v2 n2 x2) (he : e1 ≠ e2) {b : Nat} (hb : v1.ownBlock = some b) : v2.ownBlock ≠ some b := by
  intro hb2
  rcases h1.2 with ⟨rfl, _⟩ | ⟨g, cap, cur, rfl, _, hg, _⟩
  · simp [Value.ownBlock] at hb
  · simp [Value.ownBlock] at hb
    subst hb
    rcases h2.2 with ⟨rfl, _⟩ | ⟨g2, cap2, cur2, rfl, _, hg2, _⟩
    · simp [Value.ownBlock] at hb2
    · simp [Value.ownBlock] at hb2
      subst hb2
      rw [hg] at hg2
      injection hg2 with e
      injection e with _ e
      exact he e
theorem VicM.self_any (l : List EgM) (k : Nat) : l.any (fun e => e.frm == e.to_ && e.frm == (k : Int)) = GrM.E l k k := by
  unfold GrM.E
  congr 1
  funext e
  rw [show (e.frm == e.to_) = decide (e.frm = e.to_) from rfl, show (e.frm == (k : Int)) = decide (e.frm = k) from rfl, ← Bool.decide_and]
  exact decide_eq_decide.2 (by omega)
theorem VicM.check_sub {n : Int} {l m : List EgM} (h : GrM.check n l = 0) (hs : m.Sublist l) : GrM.check n m = 0 := by
  obtain ⟨k, rfl, h1, h2, h3⟩ := GrM.check_ok h
  unfold GrM.check
  have := hs.length_le
  rw [if_neg (by omega), if_neg (by omega), if_pos]
  unfold GrM.formOk
  rw [List.all_eq_true]
  intro e he
  obtain ⟨a, b, rfl, ha, hb⟩ := h3 e (hs.subset he)
  exact decide_eq_true ⟨by show (0 : Int) ≤ a; omega, by show (a : Int) < k; omega, by show (0 : Int) ≤ b; omega, by show (b : Int) < k; omega⟩

set_option maxRecDepth 20000 in
set_option maxHeartbeats 2000000 in
theorem vic_f1 (W : World) (x : EgM) (p : List Nat) (Pb : Nat) (a : Option Addr) (c : Nat) (hp : W.cell? ⟨Pb, 0, none⟩ = some (.slice a p.length c)) (hpb : Pb < W.heap.size) (ha : IntsAt W a (GrM.ints p)) (h0 : 0 < p.length) :
    Calls Try.prog 54 #[.agg #[.int .i64 x.frm, .int .i64 x.to_], .pointer (some ⟨Pb, 0, none⟩)] W fun e w' => e = .returned (.bool (x.frm == x.to_ && x.frm == ((p[0] : Nat) : Int))) ∧ Below W.heap.size W w' := by
  obtain ⟨b, off, rfl, hb, hrow⟩ := ha.resolve_left (by intro h; have := congrArg List.length h; rw [GrM.ints_len, List.length_nil] at this; omega)
  have c0 := hrow 0 (by rw [GrM.ints_len]; exact h0)
  rw [show (GrM.ints p)[0]'(by rw [GrM.ints_len]; exact h0) = ((p[0] : Nat) : Int) by simp [GrM.ints], Nat.add_zero] at c0
  generalize p[0] = k at *
  generalize p.length = L at *
  obtain ⟨x, y⟩ := x
  clear hrow
  cases d0 : (x == y) with
  | false =>
    go_enter Try.func54, Try.ntmps54
    go_wp2_with fail
    go_quiet (fail)
    go_wp2_with fail
    go_ret
    exact ⟨rfl, ((Below.refl _ _).alloc (Nat.le_refl _) _).trans ⟨rfl, rfl, rfl, Nat.le_refl _, fun _ _ => rfl⟩⟩
  | true =>
    go_enter Try.func54, Try.ntmps54
    go_wp2_with fail
    go_quiet (fail)
    go_wp2_with fail
    go_ret
    exact ⟨rfl, ((Below.refl _ _).alloc (Nat.le_refl _) _).trans ⟨rfl, rfl, rfl, Nat.le_refl _, fun _ _ => rfl⟩⟩
set_option maxRecDepth 20000 in
set_option maxHeartbeats 2000000 in
theorem vic_f2 (W : World) (x : EgM) (k : Int) (Kb : Nat) (hk : W.cell? ⟨Kb, 0, none⟩ = some (.int .i64 k)) (hkb : Kb < W.heap.size) :
    Calls Try.prog 57 #[.agg #[.int .i64 x.frm, .int .i64 x.to_], .pointer (some ⟨Kb, 0, none⟩)] W fun e w' => e = .returned (.bool (x.frm == k || x.to_ == k)) ∧ w' = W.alloc (.cells #[.int .i64 x.frm, .int .i64 x.to_] 92) := by
  obtain ⟨x, y⟩ := x
  cases d0 : (x == k) with
  | false =>
    go_enter Try.func57, Try.ntmps57
    go_wp2_with fail
    go_ret
    exact ⟨rfl, rfl⟩
  | true =>
    go_enter Try.func57, Try.ntmps57
    go_wp2_with fail
    go_ret
    exact ⟨rfl, rfl⟩
/-- What Victims answers. -/
def VicM.Post (n : Int) (l : List EgM) (w : World) (e : Ending) (w' : World) : Prop :=
  Below w.heap.size w w' ∧ ((GrM.check n l ≠ 0 ∧ e = .returned (.tuple #[.slice none 0 0, .int .i64 (GrM.check n l)])) ∨
    (GrM.check n l = 0 ∧ ∃ (out : List Nat) (r : List Int) (v : Value), VicM.Vic n.toNat l out ∧ r.Perm (GrM.ints out) ∧ r.Pairwise (· ≤ ·) ∧ e = .returned (.tuple #[v, .int .i64 0]) ∧ w'.ownsRow w.heap.size 3 1 v r.length (intVals r)))
/-- What stands at the head of a round. -/
structure VicM.St (m : Nat) (l : List EgM) (w : World) (l' : List EgM) (out : List Nat) (v7 v8 : Value) (wr : World) : Prop where
  sub : l'.Sublist l
  vic : ∀ rest, VicM.Vic m l' rest → VicM.Vic m l (out ++ rest)
  below : Below w.heap.size w wr
  left : wr.ownsRow w.heap.size 92 2 v7 l'.length (egVals l')
  out_ : wr.ownsRow w.heap.size 3 1 v8 out.length (intVals (GrM.ints out))
  cnt : out.length + l'.length ≤ l.length

theorem own_ne {w : World} {b1 e1 s1 n1 b2 e2 s2 n2 : Nat} {v1 v2 : Value} {x1 x2 : List Value} (h1 : w.ownsRow b1 e1 s1 v1 n1 x1) (h2 : w.ownsRow b2 e2 s2 v2 n2 x2) (he : e1 ≠ e2) : v1.ownBlock = none ∨ v1.ownBlock ≠ v2.ownBlock := by
  cases hb : v1.ownBlock with
  | none => exact Or.inl rfl
  | some b => exact Or.inr fun e => owns_apart h1 h2 he hb e.symm
/-- The midst of a round: some parts have been looked at. -/
structure VicM.Mid (m : Nat) (l' : List EgM) (P : List (List Nat)) (wr W2 : World) (Kb i : Nat) (wo : Int) (wx : World) : Prop where
  below : Below Kb wr wx
  blk : Blk wx Kb 3 [.int .i64 wo]
  keep : ∀ b, Kb + 1 ≤ b → b < W2.heap.size → wx.heap[b]? = W2.heap[b]?
  size : W2.heap.size ≤ wx.heap.size
  worst : VicM.Worst m l' P i wo
section
variable {m : Nat} {l' : List EgM} {P : List (List Nat)} {wr W2 wx : World} {Kb i : Nat} {wo : Int}
theorem VicM.Mid.after (h : VicM.Mid m l' P wr W2 Kb i wo wx) {wy : World} (hb : Below wx.heap.size wx wy) : VicM.Mid m l' P wr W2 Kb i wo wy :=
  ⟨h.below.trans (hb.mono (Nat.le_of_lt h.blk.lt)), h.blk.after hb, fun b h1 h2 => (hb.block b (Nat.lt_of_lt_of_le h2 h.size)).trans (h.keep b h1 h2), Nat.le_trans h.size hb.size, h.worst⟩
theorem VicM.Mid.set (h : VicM.Mid m l' P wr W2 Kb i wo wx) {j : Nat} {u : Int} (hw : VicM.Worst m l' P j u) : VicM.Mid m l' P wr W2 Kb j u (wx.setCell ⟨Kb, 0, none⟩ (.int .i64 u)) :=
  ⟨h.below.setCell (Nat.le_refl _) _, by
    have := h.blk.set (i := 0) (v := .int .i64 u)
    simpa using this, fun b h1 h2 => (Below.heap_setCell _ _ _ _ (by show b ≠ Kb; omega)).trans (h.keep b h1 h2), by rw [World.size_setCell]; exact h.size, hw⟩
theorem VicM.Mid.step (h : VicM.Mid m l' P wr W2 Kb i wo wx) {j : Nat} (hw : VicM.Worst m l' P j wo) : VicM.Mid m l' P wr W2 Kb j wo wx := ⟨h.below, h.blk, h.keep, h.size, hw⟩
theorem VicM.Mid.drew (h : VicM.Mid m l' P wr W2 Kb i wo wx) : VicM.Mid m l' P wr W2 Kb i wo wx.drew := h.after ⟨rfl, rfl, rfl, Nat.le_refl _, fun _ _ => rfl⟩
end

set_option maxRecDepth 20000 in
set_option maxHeartbeats 16000000 in
theorem victims_any (n : Int) (l : List EgM) (ao : Option Addr) (cap : Nat) (w : World) (h : EgsAt w ao l) (hnil : ao = none → cap = 0) (hn : l.length ≤ 9000000000000) :
    Calls Try.prog 37 #[.int .i64 n, .slice ao l.length cap] w (VicM.Post n l w) := by
  obtain ⟨i0, hi0, hz0, hz1, hz2⟩ := info_parts Try.infoIntG
  have H := box h
  have HNil := box hnil
  clear h hnil
  go_enter Try.func37, Try.ntmps37
  go_wp2_with fail
  refine (graphCheck_any n l ao cap w H.out hn).mono ?_
  rintro e w1 ⟨rfl, hb1⟩
  have HB1 := box hb1
  clear hb1
  obtain ⟨c, HC⟩ : ∃ c, Box (GrM.check n l = c) := ⟨_, ⟨rfl⟩⟩
  rw [HC.out]
  cases d0 : (c == 0) with
  | false =>
    have d1 : (c != 0) = true := by simpa using d0
    have HC0 : Box (c ≠ 0) := ⟨by simpa using d0⟩
    go_wp2_with fail
    go_ret2
    exact ⟨HB1.out, Or.inl ⟨by rw [HC.out]; exact HC0.out, by rw [HC.out]; rfl⟩⟩
  | true =>
  obtain rfl : c = 0 := by simpa using d0
  obtain ⟨m, rfl, hm6, hl2, hf⟩ := GrM.check_ok HC.out
  clear hf
  obtain ⟨N, HN⟩ : ∃ N, Box (l.length = N) := ⟨_, ⟨rfl⟩⟩
  have HCl := box (clone_egs l ao cap w1 (H.out.below HB1.out (Nat.le_refl _)) HNil.out (by omega))
  rw [HN.out] at hl2 hn HCl ⊢
  go_wp2_with fail
  refine HCl.out.mono ?_
  rintro e w2 ⟨⟨vl, rfl, hown⟩, hb2⟩
  have HS : Box (VicM.St m l w l [] vl (.slice none 0 0) w2) := ⟨⟨List.Sublist.refl _, fun rest h => h, below_tr HB1.out hb2, by
    rw [HN.out]; exact ownsRow_mono hown HB1.out.size, World.ownsRow_nil _ _ _ _, by simp⟩⟩
  clear hown hb2 HCl HB1 d0
  go_wp2_with fail
  go_loopg [7, 8] N (fun f t7 t8 wr => ∃ (l' : List EgM) (out : List Nat), f = l'.length ∧ Box (VicM.St m l w l' out t7 t8 wr))
  case atStart => exact ⟨l, [], HN.out.symm, HS⟩
  case round =>
    obtain ⟨l', out, hfl, HQ⟩ := hrel
    obtain ⟨wq, hwq⟩ : ∃ x, x = wr := ⟨_, rfl⟩
    rw [← hwq] at HQ ⊢
    clear hwq
    clear HS
    obtain ⟨la, lc, hv7, _, hla, _, _⟩ := EgsAt.own HQ.out.left
    obtain ⟨oa, oc, hv8, _, _, _, _⟩ := IntsAt.own HQ.out.out_
    rw [GrM.ints_len] at hv8
    subst hv7 hv8
    have hcn := HQ.out.cnt
    have HLa := box hla
    have HPc := box (fun (wx : World) (hb : Below wq.heap.size wq wx) => parts_any (m : Int) l' la lc wx (hla.below hb (Nat.le_refl _)) (by have := HN.out; omega))
    obtain ⟨LL, HLL⟩ : ∃ x, Box (l'.length = x) := ⟨_, ⟨rfl⟩⟩
    obtain ⟨OL, HOL⟩ : ∃ x, Box (out.length = x) := ⟨_, ⟨rfl⟩⟩
    rw [HLL.out] at HPc hfl hcn ⊢
    rw [HOL.out] at hcn ⊢
    rw [HN.out] at hcn
    clear hla
    obtain ⟨Kb, HKb⟩ : ∃ x, Box (wq.heap.size = x) := ⟨_, ⟨rfl⟩⟩
    go_wp2_with fail
    refine (HPc.out _ ((Below.refl _ _).alloc (Nat.le_refl _) _)).mono ?_
    rintro e W2 ⟨hb2, hc⟩
    rcases hc with ⟨hc0, _⟩ | ⟨_, P, v, pv, rfl, hP, _, hT, hR⟩
    · exact absurd (VicM.check_sub HC.out HQ.out.sub) hc0
    obtain ⟨pa, pc, rfl, hpat⟩ := VicM.partsIn hT hR
    rw [Int.toNat_natCast] at hP
    rw [World.size_alloc, HKb.out] at hpat hb2
    have HP := box hP; have HPat := box hpat
    have HM0 : Box (VicM.Mid m l' P wq W2 Kb 0 (-1) W2) := ⟨⟨by
      rw [← HKb.out]
      exact ((Below.refl _ _).alloc (Nat.le_refl _) _).trans (hb2.mono (by rw [HKb.out]; omega)), by
      have := Blk.new wq [.int .i64 (-1)] 3
      rw [HKb.out] at this
      exact this.below hb2 (by omega), fun _ _ _ => rfl, Nat.le_refl _, VicM.Worst.start⟩⟩
    have hPl := hP.len
    obtain ⟨PL, HPL⟩ : ∃ x, Box (P.length = x) := ⟨_, ⟨rfl⟩⟩
    rw [HKb.out, HPL.out]
    rw [HPL.out] at hPl
    clear hP hT hR hpat hb2 HPc
    go_wp2_with fail
    go_loopw [31] (fun t31 wx => ∃ (i : Nat) (wo : Int), i ≤ PL ∧ t31 = .int .i64 (i : Int) ∧ Box (VicM.Mid m l' P wq W2 Kb i wo wx)) (fun t31 _ => PL - (RowKit.intOf t31).toNat)
    case atStart => exact ⟨0, -1, Nat.zero_le _, rfl, HM0⟩
    case round =>
      obtain ⟨i, wo, hi, rfl, HM⟩ := hrel
      clear HM0
      by_cases hit : i < PL
      · have hip : i < P.length := by rw [HPL.out]; exact hit
        obtain ⟨g, hpa, hlo, hgs, hcell, a, c, hv, hat⟩ := (HPat.out.keep HM.out.keep HM.out.size).row i hip
        subst hpa
        have hp0 : 0 < P[i].length := List.length_pos_iff.2 (HP.out.scc _ (List.getElem_mem hip)).1
        have HTk0 : Box (∀ p (h0 : 0 < p.length), p = P[i] → VicM.cyc l' p = true → VicM.Worst m l' P (i + 1) (max wo ((p[p.length - 1]'(by omega) : Nat) : Int))) := ⟨by rintro p h0 rfl hc; exact HM.out.worst.take HP.out hip hc h0⟩
        have HSk0 : Box (∀ p, p = P[i] → VicM.cyc l' p = false → VicM.Worst m l' P (i + 1) wo) := ⟨by rintro p rfl hc; exact HM.out.worst.skip hip hc⟩
        have hpl : P[i].length ≤ m := by
          rw [← HP.out.count]
          have e := congrArg (fun q : List (List Nat) => q.flatten.length) (List.take_append_drop i P)
          rw [List.drop_eq_getElem_cons hip] at e
          simp only [List.flatten_append, List.length_append, List.flatten_cons] at e
          omega
        have hcyc : VicM.cyc l' P[i] = (decide (1 < P[i].length) || l'.any (fun e => e.frm == e.to_ && e.frm == ((P[i][0] : Nat) : Int))) := by
          unfold VicM.cyc
          rw [VicM.self_any, getElem!_pos P[i] 0 hp0]
        have hcyc2 : ∀ p (h0 : 0 < p.length), p = P[i] → VicM.cyc l' p = (decide (1 < p.length) || l'.any (fun e => e.frm == e.to_ && e.frm == ((p[0] : Nat) : Int))) := by rintro p h0 rfl; exact hcyc
        clear hcyc
        obtain ⟨p, hpp⟩ : ∃ p, P[i] = p := ⟨_, rfl⟩
        rw [hpp] at hv hat hp0 hpl
        have hcyc := hcyc2 p hp0 hpp.symm
        have HTk := box (HTk0.out p hp0 hpp.symm)
        have HSk := box (HSk0.out p hpp.symm)
        clear hpp hcyc2 HTk0 HSk0
        rw [hv] at hcell
        have hat2 := hat.at
        obtain ⟨b, off, hab, hlb, hbs, hrow⟩ := hat.resolve_left (by intro h; have := congrArg List.length h; rw [GrM.ints_len, List.length_nil] at this; omega)
        subst hab
        obtain ⟨q, hq⟩ : ∃ q, p.length = q + 1 := ⟨p.length - 1, by omega⟩
        have c0 := hrow q (by rw [GrM.ints_len]; omega)
        rw [show (GrM.ints p)[q]'(by rw [GrM.ints_len]; omega) = ((p[p.length - 1]'(by omega) : Nat) : Int) by simp [GrM.ints, hq]] at c0
        generalize hla0 : p[p.length - 1]'(by omega) = la0 at *
        have hKs := HM.out.blk.lt
        have hlw : EgsAt wr la l' := HLa.out.below HM.out.below (by rw [HKb.out]; exact Nat.le_refl _)
        have HCf := box (containsFunc_egs l' la lc 54 #[.pointer (some ⟨wr.heap.size, 0, none⟩)] (fun e => e.frm == e.to_ && e.frm == ((p[0] : Nat) : Int)) (wr.alloc (.cells #[.slice (some ⟨b, off, none⟩) p.length c] 23)) (hlw.below ((Below.refl _ _).alloc (Nat.le_refl _) _) (Nat.le_refl _)) (by have := HLL.out; omega) (fun W hW o _ =>
          vic_f1 W o p wr.heap.size (some ⟨b, off, none⟩) c (((Blk.new wr [.slice (some ⟨b, off, none⟩) p.length c] 23).after hW).cell rfl) ((Blk.new wr [.slice (some ⟨b, off, none⟩) p.length c] 23).after hW).lt
            ((hat2.below ((Below.refl _ _).alloc (Nat.le_refl _) _) (Nat.le_refl _)).below hW (Nat.le_refl _)) hp0) (enters_fn Try.func54 (by kernel_rfl) rfl))
        rw [HLL.out] at HCf
        obtain ⟨Lp, HLp⟩ : ∃ x, Box (p.length = x) := ⟨_, ⟨rfl⟩⟩
        obtain ⟨S, HSx⟩ : ∃ x, Box (l'.any (fun e => e.frm == e.to_ && e.frm == ((p[0] : Nat) : Int)) = x) := ⟨_, ⟨rfl⟩⟩
        rw [HSx.out] at HCf hcyc
        rw [HLp.out] at HCf hcyc hcell hpl hq
        rw [hcyc] at HTk HSk
        have HQx : Box (IntsAt wr (some ⟨b, off, none⟩) (GrM.ints p)) := ⟨hat2⟩
        obtain ⟨Pb, HPb⟩ : ∃ x, Box (wr.heap.size = x) := ⟨_, ⟨rfl⟩⟩
        obtain ⟨W3, HW3⟩ : ∃ x, Box (wr.alloc (.cells #[.slice (some ⟨b, off, none⟩) Lp c] 23) = x) := ⟨_, ⟨rfl⟩⟩
        have HS3 : Box (VicM.Mid m l' P wq W2 Kb i wo W3 ∧ Blk W3 Pb 23 [.slice (some ⟨b, off, none⟩) Lp c] ∧ W3.cell? ⟨b, off + q, none⟩ = some (.int .i64 (la0 : Int)) ∧ b < W3.heap.size) := ⟨by
          have hbl : Below wr.heap.size wr W3 := by rw [← HW3.out]; exact (Below.refl _ _).alloc (Nat.le_refl _) _
          refine ⟨HM.out.after hbl, ?_, (hbl.cell (p := ⟨b, off + q, none⟩) hbs).trans c0, Nat.lt_of_lt_of_le hbs hbl.size⟩
          rw [← HW3.out, ← HPb.out]
          exact Blk.new _ _ _⟩
        have hne1 : Kb ≠ Pb := by have := HPb.out; omega
        have hne2 : Kb ≠ b := by omega
        have hne3 : Pb ≠ b := by have := HPb.out; omega
        rw [HW3.out, HPb.out] at HCf
        clear hrow hat hat2 hlw c0 hv hcyc hKs hbs
        subst hq
        go_wp2_with fail
        rw [HW3.out, HPb.out]
        refine HCf.out.mono ?_
        rintro e W4 ⟨rfl, hb4⟩
        have HM4 := box (HS3.out.1.after hb4)
        have k0 := HM4.out.blk.cell (i := 0) rfl
        have kz := HM4.out.blk.frozen 0
        have p0 := (HS3.out.2.1.after hb4).cell (i := 0) rfl
        have c0 : W4.cell? ⟨b, off + q, none⟩ = some (.int .i64 (la0 : Int)) := (hb4.cell (p := ⟨b, off + q, none⟩) HS3.out.2.2.2).trans HS3.out.2.2.1
        have hne1' := hne1.symm
        have hne2' := hne2.symm
        have hne3' := hne3.symm
        clear hb4 HS3 HW3 HCf HQx
        rw [show decide (1 < q + 1) = decide ((1 : Int) < (q : Int) + 1) from decide_eq_decide.2 (by omega)] at HSk HTk
        cases d1 : decide ((1 : Int) < (q : Int) + 1) with
        | true =>
          have HNx := box (HM4.out.set (HTk.out (by rw [d1]; rfl)))
          have hw1 : IntKind.i64.wrap ((q : Int) + 1 - 1) = (q : Int) := (IntWalk.i64_in _ (by omega)).trans (by omega)
          have hw2 : IntKind.i64.wrap (q : Int) = (q : Int) := IntWalk.i64_in _ (by omega)
          go_wp2_with fail
          go_region
          all_goals
            go_wp2_with fail
            go_roundw
            case rel => exact ⟨i + 1, _, by omega, by go_num, ⟨HNx.out.drew⟩⟩
            case measure => simp [RowKit.intOf]; omega
        | false =>
          cases S with
          | true =>
            have HNx := box (HM4.out.set (HTk.out (by rw [d1]; rfl)))
            have hw1 : IntKind.i64.wrap ((q : Int) + 1 - 1) = (q : Int) := (IntWalk.i64_in _ (by omega)).trans (by omega)
            have hw2 : IntKind.i64.wrap (q : Int) = (q : Int) := IntWalk.i64_in _ (by omega)
            go_wp2_with fail
            go_region
            all_goals
              go_wp2_with fail
              go_roundw
              case rel => exact ⟨i + 1, _, by omega, by go_num, ⟨HNx.out.drew⟩⟩
              case measure => simp [RowKit.intOf]; omega
          | false =>
            have HNx := box (HM4.out.step (HSk.out (by rw [d1]; rfl)))
            go_wp2_with fail
            go_roundw
            case rel => exact ⟨i + 1, wo, by omega, by go_num, HNx⟩
            case measure => simp [RowKit.intOf]; omega
      · obtain rfl : i = PL := by omega
        have HWo : Box (VicM.Worst m l' P P.length wo) := ⟨by rw [HPL.out]; exact HM.out.worst⟩
        have k0 := HM.out.blk.cell (i := 0) rfl
        cases d0 : decide (wo < 0) with
        | true =>
          have HVic : Box (VicM.Vic m l out) := ⟨by
            have := HQ.out.vic [] (.done fun k hk => HWo.out.none HP.out (of_decide_eq_true d0) k hk.lt hk)
            rwa [List.append_nil] at this⟩
          have hown : wr.ownsRow w.heap.size 3 1 (.slice oa OL oc) OL (intVals (GrM.ints out)) := by
            have h1 := HQ.out.out_
            rw [HOL.out] at h1
            exact ownsRow_below h1 (by rw [HKb.out]; exact HM.out.below)
          have hwr : Below w.heap.size w wr := HQ.out.below.trans (HM.out.below.mono (by rw [← HKb.out]; exact HQ.out.below.size))
          clear HLa HPat
          rcases hown.2 with ⟨h1, h2⟩ | ⟨g, vc, cur, h1, _⟩
          · injection h1 with h1 _ h3
            subst h1 h3
            obtain rfl : OL = 0 := h2
            have h0 : out = [] := List.eq_nil_of_length_eq_zero HOL.out
            have HB := box hwr
            clear hown hwr
            go_wp2_with fail
            refine (Try.slices_Sort_int_none none 0 wr).mono ?_
            rintro e w2 ⟨rfl, rfl⟩
            go_wp2_with fail
            go_ret2
            refine ⟨HB.out, Or.inr ⟨HC.out, out, [], .slice none 0 0, by rw [Int.toNat_natCast]; exact HVic.out, by rw [h0]; exact List.Perm.refl _, List.Pairwise.nil, rfl, World.ownsRow_nil _ _ _ _⟩⟩
          · injection h1 with h1 _ h3
            subst h1 h3
            have hol : OL ≤ N := by omega
            have hso := sort_ints (GrM.ints out) g oc w.heap.size 3 wr (by rw [GrM.ints_len, HOL.out]; exact hown) (by rw [GrM.ints_len, HOL.out]; omega)
            rw [GrM.ints_len, HOL.out] at hso
            have HSo := box hso
            have HB := box hwr
            have HLt := box (hown.lt g rfl).1
            clear hown hwr hso
            go_wp2_with fail
            refine HSo.out.mono ?_
            rintro e w2 ⟨rfl, ho2, hg2⟩
            have HO2 := box ho2; have HG2 := box hg2
            clear ho2 hg2
            go_wp2_with fail
            go_ret2
            have hml : ((GrM.ints out).mergeSort fun x y => decide (x ≤ y)).length = OL := by rw [List.length_mergeSort, GrM.ints_len, HOL.out]
            refine ⟨HB.out.grown HG2.out HB.out.size (fun b hb => by injection hb with hb; subst hb; exact HLt.out), Or.inr ⟨HC.out, out, (GrM.ints out).mergeSort fun x y => decide (x ≤ y), .slice (some ⟨g, 0, none⟩) OL oc, by rw [Int.toNat_natCast]; exact HVic.out, List.mergeSort_perm _ _, IntSort.sorted _, rfl, ?_⟩⟩
            rw [hml]; exact HO2.out
        | false =>
          obtain ⟨k, rfl, hk, hkp, hkm⟩ := HWo.out.some HP.out (of_decide_eq_false d0)
          have hwr : Below w.heap.size w wr := HQ.out.below.trans (HM.out.below.mono (by rw [← HKb.out]; exact HQ.out.below.size))
          have hsw := hwr.size
          have hown : wr.ownsRow w.heap.size 3 1 (.slice oa OL oc) OL (intVals (GrM.ints out)) := by
            have h1 := HQ.out.out_
            rw [HOL.out] at h1
            exact ownsRow_below h1 (by rw [HKb.out]; exact HM.out.below)
          have hleft : wr.ownsRow w.heap.size 92 2 (.slice la LL lc) l'.length (egVals l') := by
            have h1 := HQ.out.left
            rw [HLL.out] at h1 ⊢
            exact ownsRow_below h1 (by rw [HKb.out]; exact HM.out.below)
          have hneK : (Value.slice oa OL oc).ownBlock ≠ some Kb := fun e => by
            have h1 := HQ.out.out_
            rw [HOL.out] at h1
            have := (h1.lt Kb e).2
            have := HKb.out
            omega
          have hneL : ∀ b, (Value.slice la LL lc).ownBlock = some b → w.heap.size ≤ b ∧ b ≠ Kb := fun b e => by
            have h1 := HQ.out.left
            rw [HLL.out] at h1
            have := h1.lt b e
            have := HKb.out
            omega
          have HNe := box hneK; have HNl := box hneL; have HLe := box hleft; have HOw := box hown; have HKp := box hkp; have HKm := box hkm
          have hown1 := hown.alloc (.cells #[.int .i64 (k : Int)] 3)
          have hol : OL ≤ N := by omega
          clear hneK hneL hleft hown hkp hkm HLa HPat HP HWo
          go_wp2_with (at_builtin; go_must (refine wpList_append_lies _ rfl _ _ 23 rfl w.heap.size 3 i0 _ 1 8 Try.underlying23 hi0 hz0 hz1 hz2 rfl (by decide) _ _ _ rfl hown1 ⟨wr.heap.size, 0, none⟩ 1 1 [.int .i64 (k : Int)] rfl rfl (cells_new wr [.int .i64 (k : Int)] 3) (by simp [Value.oneCell']) (by decide) (by unfold maxLen; omega) (by omega) (by simp; omega) (wr.heap.size + 1) (by simp) ?_))
          intro gg gcap w7 hown7 hgrow7 hat7 hlt7
          have HB7 : Box (Below w.heap.size w w7) := ⟨(hwr.alloc hsw _).grown hgrow7 (by simp; omega) (fun b hb => (HOw.out.lt b hb).1)⟩
          have HK7 : Box (Blk w7 Kb 3 [.int .i64 (k : Int)]) := ⟨(HM.out.blk.alloc _).grown hgrow7 HNe.out⟩
          have HL7 : Box (w7.ownsRow w.heap.size 92 2 (.slice la LL lc) l'.length (egVals l')) := ⟨(HLe.out.alloc _).kept hgrow7 (own_ne HLe.out HOw.out (by decide))⟩
          have HO7 : Box (w7.ownsRow w.heap.size 3 1 (.slice (some ⟨gg, 0, none⟩) (OL + 1) gcap) (OL + 1) (intVals (GrM.ints (out ++ [k])))) := ⟨by
            have e1 : intVals (GrM.ints (out ++ [k])) = intVals (GrM.ints out) ++ [.int .i64 (k : Int)] := by unfold GrM.ints intVals; simp
            rw [e1]
            exact hown7⟩
          have HDl := box (deleteFunc_egsT l' (.slice la LL lc) w.heap.size 57 #[.pointer (some ⟨Kb, 0, none⟩)] (fun x => x.frm == (k : Int) || x.to_ == (k : Int))
            (fun _ W => Below w.heap.size w W ∧ Blk W Kb 3 [.int .i64 (k : Int)] ∧ W.ownsRow w.heap.size 3 1 (.slice (some ⟨gg, 0, none⟩) (OL + 1) gcap) (OL + 1) (intVals (GrM.ints (out ++ [k])))) w7 HL7.out (by have := HLL.out; omega) ⟨HB7.out, HK7.out, HO7.out⟩
            { call := fun j hj W hI _ => (vic_f2 W l'[j] k Kb (hI.2.1.cell rfl) hI.2.1.lt).mono fun e w' ⟨h1, h2⟩ => ⟨h1, by
                rw [h2]
                exact ⟨hI.1.alloc hI.1.size _, hI.2.1.alloc _, hI.2.2.alloc _⟩, by rw [h2]; simp, fun b _ hb => by rw [h2]; exact Below.heap_alloc _ _ _ hb⟩
              alloc := fun j W o hI => ⟨hI.1.alloc hI.1.size _, hI.2.1.alloc _, hI.2.2.alloc _⟩
              store := fun j W b i u hI hb => ⟨hI.1.setCell (HNl.out b hb).1 _, hI.2.1.other (fun e => (HNl.out b hb).2 e.symm) _, ownsRow_setCell_other hI.2.2 (fun e => owns_apart HL7.out HO7.out (by decide) hb e) _⟩ } (enters_fn Try.func57 (by kernel_rfl) rfl))
          have k7 := HK7.out.cell (i := 0) rfl
          clear hown7 hgrow7 hat7 hlt7 hown1 HB7 HK7 HL7 HO7 k0
          go_wp2_with fail
          refine HDl.out.mono ?_
          rintro e W8 ⟨v', rfl, _, hown8, ⟨hb8, _, ho8⟩, _⟩
          have hdl := VicM.del_lt HKp.out
          have HNx : Box (VicM.St m l w (VicM.del (k : Int) l') (out ++ [k]) v' (.slice (some ⟨gg, 0, none⟩) (OL + 1) gcap) W8) := ⟨⟨List.filter_sublist.trans HQ.out.sub, fun rest h => by
            have := HQ.out.vic (k :: rest) (.step HKp.out HKm.out h)
            rwa [List.append_assoc], hb8, hown8, by
            rw [List.length_append, List.length_singleton, HOL.out]; exact ho8, by
            have := HQ.out.cnt
            rw [List.length_append, List.length_singleton]; omega⟩⟩
          have hdl2 : (VicM.del (k : Int) l').length < LL := by rw [← HLL.out]; exact hdl
          clear hown8 hb8 ho8 HDl hdl
          go_wp2_with fail
          go_roundg (VicM.del (k : Int) l').length
          case measure => omega
          case rel => exact ⟨VicM.del (k : Int) l', out ++ [k], rfl, HNx⟩
end Go.Proofs.Ytnnkejolfhhmlaa
