/- hope.meet, hope.Judge: what they answer. -/
import Derived.Test.YtlmibgjflgkalaaHopeC
import Derived.Deep.OwnRows
namespace Go.Proofs.Ytlmibgjflgkalaa
open Go.RowKit Go.Lib

theorem HopeM.any_mem (b : List Int) (k : Int) : (b.any fun m => m == k) = decide (k ∈ b) := by
  rw [Bool.eq_iff_iff, List.any_eq_true, decide_eq_true_eq]
  constructor
  · rintro ⟨m, h, e⟩; rw [beq_iff_eq] at e; rw [← e]; exact h
  · intro h; exact ⟨k, h, by simp⟩
theorem HopeM.meet_eq (a b : List Int) : HopeM.meet a b = a.any fun k => decide (k ∈ b) := by
  unfold HopeM.meet
  congr 1
  funext k
  exact HopeM.any_mem b k

set_option maxRecDepth 20000 in
set_option maxHeartbeats 1000000 in
theorem hope_tells (b : List Int) (bo : Option Addr) (bc C : Nat) (W : World) (h : IntsAt W bo b) (hn : b.length ≤ 9000000000000000000) (hc : W.cell? ⟨C, 0, none⟩ = some (.slice bo b.length bc)) :
    Tells 71 #[.pointer (some ⟨C, 0, none⟩)] (fun k => decide (k ∈ b)) W := by
  intro x
  have HC := box (contains_ints b x bo bc W h hn)
  clear h
  go_enter Try.func71, Try.ntmps71
  go_wp2_with fail
  refine HC.out.mono ?_
  rintro e w' ⟨rfl, rfl⟩
  obtain ⟨y, HY⟩ : ∃ y, Box (decide (x ∈ b) = y) := ⟨_, ⟨rfl⟩⟩
  rw [HY.out]
  go_wp2_with fail
  go_ret
  exact ⟨by rw [HY.out]; rfl, rfl⟩

set_option maxRecDepth 20000 in
set_option maxHeartbeats 1000000 in
theorem hopeMeet_any (a b : List Int) (ao bo : Option Addr) (cap cap' : Nat) (w : World) (h : IntsAt w ao a) (h' : IntsAt w bo b) (hn : a.length ≤ 9000000000000000000) (hm : b.length ≤ 9000000000000000000) :
    Calls Try.prog 61 #[.slice ao a.length cap, .slice bo b.length cap'] w fun e w' => e = .returned (.bool (HopeM.meet a b)) ∧ Below w.heap.size w w' := by
  have hB := (Below.refl w.heap.size w).alloc (Nat.le_refl _) (.cells #[.slice bo b.length cap'] 31)
  have hT := hope_tells b bo cap' w.heap.size _ (h'.below hB (Nat.le_refl _)) hm ((Blk.new w [.slice bo b.length cap'] 31).cell (i := 0) rfl)
  have HC := box (containsFunc_ints a ao cap 71 #[.pointer (some ⟨w.heap.size, 0, none⟩)] _ _ (h.below hB (Nat.le_refl _)) hn hT (enters_fn Try.func71 (by kernel_rfl) rfl))
  have HM := box (HopeM.meet_eq a b)
  have HB := box hB
  clear hT hB h h'
  go_enter Try.func61, Try.ntmps61
  go_wp2_with fail
  refine HC.out.mono ?_
  rintro e w' ⟨rfl, rfl⟩
  rw [← HM.out]
  obtain ⟨y, HY⟩ : ∃ y, Box (HopeM.meet a b = y) := ⟨_, ⟨rfl⟩⟩
  rw [HY.out]
  go_wp2_with fail
  go_ret
  exact ⟨by rw [HY.out]; rfl, HB.out⟩

theorem HopeM.infoB : (Try.prog.info? 4).map (fun i => (i.zero, i.size, i.bytes)) = some (some (.bool false), 1, 1) := by kernel_rfl
def HopeM.JudgePost (L : List TryL) (e : Ending) (w' : World) : Prop :=
  (HopeM.chk (TryL.plain L) ≠ 0 ∧ e = .returned (.tuple #[.slice none 0 0, .int .i64 (HopeM.chk (TryL.plain L))])) ∨
  (HopeM.chk (TryL.plain L) = 0 ∧ ∃ g, e = .returned (.tuple #[.slice (some ⟨g, 0, none⟩) L.length L.length, .int .i64 0]) ∧ Blk w' g 4 (Tab L.length fun k => .bool (HopeM.js (TryL.plain L) L.length k)))
/-- Has one of the first k stood in the way of the one at i? -/
def HopeM.acc (l : List TryM) (i k : Nat) : Bool := (List.range k).any fun m => HopeM.js l i m && HopeM.hits l m i
theorem HopeM.acc_succ (l : List TryM) (i k : Nat) : HopeM.acc l i (k + 1) = (HopeM.acc l i k || (HopeM.js l i k && HopeM.hits l k i)) := by
  unfold HopeM.acc
  rw [List.range_succ, List.any_append]
  simp
theorem HopeM.js_succ (l : List TryM) (i : Nat) : HopeM.js l (i + 1) = upd (HopeM.js l i) i (!HopeM.acc l i i) := rfl
theorem HopeM.hits_at (L : List TryL) {k i : Nat} (hk : k < L.length) (hi : i < L.length) : HopeM.hits (TryL.plain L) k i = (decide (L[i].t.st < L[k].t.en) && HopeM.meet L[k].t.wr L[i].t.rd) := by
  unfold HopeM.hits
  rw [dif_pos (by rw [TryL.plain_len]; exact ⟨hk, hi⟩), TryL.plain_get L hi, TryL.plain_get L hk]

set_option maxRecDepth 20000 in
set_option maxHeartbeats 8000000 in
theorem hopeJudge_any (L : List TryL) (ao : Option Addr) (cap : Nat) (w : World) (h : TriesAt w ao L) (hn : L.length ≤ 9000000000000) (hcap : L.length ≤ cap) (hcap2 : cap ≤ 900000000000000) :
    Calls Try.prog 38 #[.slice ao L.length cap] w fun e w' => HopeM.JudgePost L e w' ∧ Below w.heap.size w w' := by
  have H := box h
  have HC := box (hopeCheck_any L ao cap w h hn)
  clear h
  go_enter Try.func38, Try.ntmps38
  go_wp2_with fail
  refine HC.out.mono ?_
  rintro e w1 ⟨rfl, hb1⟩
  have HB1 := box hb1
  clear hb1 HC
  by_cases hc : HopeM.chk (TryL.plain L) = 0
  case neg =>
    have HP : Box (HopeM.JudgePost L (.returned (.tuple #[.slice none 0 0, .int .i64 (HopeM.chk (TryL.plain L))])) w1) := ⟨Or.inl ⟨hc, rfl⟩⟩
    have q1 : (HopeM.chk (TryL.plain L) == 0) = false := by simpa using hc
    have q2 : (HopeM.chk (TryL.plain L) != 0) = true := by simpa using hc
    clear hc
    generalize HopeM.chk (TryL.plain L) = c at *
    go_wp2_with fail
    refine bodyPost_ret (by simp [results, Try.results38, go_sem]) rfl ⟨HP.out, HB1.out⟩
  have HOK := box (HopeM.chk_ok hc)
  have HPost : Box (∀ w' g, Blk w' g 4 (Tab L.length fun k => .bool (HopeM.js (TryL.plain L) L.length k)) → HopeM.JudgePost L (.returned (.tuple #[.slice (some ⟨g, 0, none⟩) L.length L.length, .int .i64 0])) w') := ⟨fun w' g h => Or.inr ⟨hc, g, rfl, h⟩⟩
  rw [hc]
  have hl40 : L.length ≤ 40 := by have := HOK.out.len; rw [TryL.plain_len] at this; exact this
  clear hc
  have hmk := run_make_row' (P := Try.prog) 80 4 (.bool false) 1 Try.underlying80 HopeM.infoB rfl .i64 .i64 L.length (by omega) (by omega)
  go_upto_region 5 with (fail)
  have hTab : (madeCells #[Value.bool false] L.length) = (Tab L.length fun _ => Value.bool false).toArray := by
    have h1 := toList_madeCells_one (Value.bool false) L.length
    have h2 : (Tab L.length fun _ => Value.bool false) = List.replicate L.length (Value.bool false) := by
      unfold Tab
      rw [List.map_const', List.length_range]
    rw [h2, ← h1, Array.toArray_toList]
  rw [hTab]
  clear hTab hmk
  obtain ⟨Bp, HBp⟩ : ∃ Bp, Box (w1.heap.size = Bp) := ⟨_, ⟨rfl⟩⟩
  refine name_world (fun V => Below w.heap.size w V ∧ Blk V w1.heap.size 4 (Tab L.length fun _ => .bool false)) ⟨HB1.out.alloc HB1.out.size _, Blk.new _ _ _⟩ ?_
  rintro V ⟨hbV, hkV⟩
  have HP := box hkV
  have HBV := box hbV
  have hs1 := HB1.out.size
  rw [HBp.out] at HP ⊢
  have hBpw : w.heap.size ≤ Bp := by have := HBp.out; omega
  clear hbV hkV
  go_wp2_with fail
  go_loopw [20] (fun t20 wr => ∃ i : Nat, i ≤ L.length ∧ t20 = .int .i64 (i : Int) ∧ Box (Blk wr Bp 4 (Tab L.length fun k => .bool (HopeM.js (TryL.plain L) i k))) ∧ Box (Below w.heap.size w wr)) (fun t20 _ => L.length - (intOf t20).toNat)
  case atStart => exact ⟨0, Nat.zero_le _, rfl, HP, HBV⟩
  case round =>
    obtain ⟨i, hi, rfl, HPi, HBi⟩ := hrel
    by_cases hlt : i < L.length
    case neg =>
      have hiL : i = L.length := by omega
      subst hiL
      have HF := box (HPost.out wr Bp HPi.out)
      clear hlt hi
      go_wp2_with fail
      refine bodyPost_ret (by simp [results, Try.results38, go_sem]) rfl ⟨HF.out, HBi.out⟩
    have HLr := box (H.out.below HBi.out (Nat.le_refl _))
    obtain ⟨b, off, rfl, hb, hrow⟩ := (HLr.out.row.resolve_left (by intro h; rw [h] at hlt; simp at hlt))
    have HRow : Box (∀ wx, Below w.heap.size w wx → ∀ k (h : k < L.length), wx.cell? ⟨b, off + k * 4, none⟩ = some (.int .i64 L[k].t.st) ∧ wx.cell? ⟨b, off + k * 4 + 1, none⟩ = some (.int .i64 L[k].t.en) ∧
      wx.cell? ⟨b, off + k * 4 + 2, none⟩ = some (.slice L[k].ra L[k].t.rd.length L[k].rc) ∧ wx.cell? ⟨b, off + k * 4 + 3, none⟩ = some (.slice L[k].wa L[k].t.wr.length L[k].wc)) := ⟨fun wx hx k hk => by
      rcases (H.out.below hx (Nat.le_refl _)).row with h | ⟨b', off', h1, h2, h3⟩
      · rw [h] at hk; simp at hk
      · simp only [Option.some.injEq, Addr.mk.injEq, and_true] at h1
        obtain ⟨rfl, rfl⟩ := h1
        exact h3 k hk⟩
    obtain ⟨hc0, hc1, hc2, hc3⟩ := hrow i hlt
    have hbs := HBi.out.size
    have hpi := HPi.out.lt
    clear hrow
    have HSl : Box (∀ wx, Below w.heap.size w wx → ∀ k (h : k < L.length), (L[k]).Sl wx) := ⟨fun wx hx k hk => (H.out.below hx (Nat.le_refl _)).sl _ (List.getElem_mem hk)⟩
    have HHits : Box (∀ k (hk : k < L.length), HopeM.hits (TryL.plain L) k i = (decide (L[i].t.st < L[k].t.en) && HopeM.meet L[k].t.wr L[i].t.rd)) := ⟨fun k hk => HopeM.hits_at L hk hlt⟩
    have HSi : Box (∀ wx, Below w.heap.size w wx → (L[i]).Sl wx) := ⟨fun wx hx => HSl.out wx hx i hlt⟩
    have HLen : Box (∀ k (h : k < L.length), L[k].t.rd.length ≤ 20 ∧ L[k].t.wr.length ≤ 20) := ⟨fun k hk => by
      have h1 := HOK.out.one L[k].t (by unfold TryL.plain; exact List.mem_map.2 ⟨_, List.getElem_mem hk, rfl⟩)
      exact ⟨h1.2.2.2.1, h1.2.2.2.2.1⟩⟩
    have hrdl := (HLen.out i hlt).1
    generalize L[i] = x at *
    obtain ⟨⟨st, en, rd, wrs⟩, ra, rc, wa, wc⟩ := x
    simp only at hc0 hc1 hc2 hc3 HHits hrdl
    go_upto_region 8 with (fail)
    refine name_world (fun W => Below wr.heap.size wr W ∧ Blk W wr.heap.size 84 [.int .i64 st, .int .i64 en, .slice ra rd.length rc, .slice wa wrs.length wc] ∧ Blk W Bp 4 (Tab L.length fun k => .bool (HopeM.js (TryL.plain L) i k))) ⟨(Below.refl _ _).alloc (Nat.le_refl _) _, Blk.new _ _ _, HPi.out.alloc _⟩ ?_
    rintro W ⟨hbW, hkW, hpW⟩
    have HBW := box (HBi.out.trans (hbW.mono hbs))
    have HKW := box hkW
    have HPW := box hpW
    obtain ⟨Bi, HBx⟩ : ∃ Bi, Box (wr.heap.size = Bi) := ⟨_, ⟨rfl⟩⟩
    rw [HBx.out] at HKW ⊢
    have hBpi : Bp ≠ Bi := by have := HBx.out; omega
    have hcell := hpW.tabCell hlt
    have hfz := hpW.frozen i
    have HSt : Box (Blk (W.setCell ⟨Bp, i, none⟩ (.bool true)) Bp 4 (Tab L.length fun p => .bool (upd (HopeM.js (TryL.plain L) i) i (!HopeM.acc (TryL.plain L) i 0) p))) := ⟨by
      have h1 := hpW.tabSet i (.bool true)
      rw [show (fun p => Value.bool (upd (HopeM.js (TryL.plain L) i) i (!HopeM.acc (TryL.plain L) i 0) p)) = upd (fun k => .bool (HopeM.js (TryL.plain L) i k)) i (.bool true) from funext fun p => by
        simp only [upd]; split <;> rfl]
      exact h1⟩
    have hlW := hkW.lt
    have HKs := box (HKW.out.other (p := ⟨Bp, i, none⟩) (fun e => hBpi e.symm) (.bool true))
    have HBs := box (HBW.out.setCell (p := ⟨Bp, i, none⟩) (by simpa using hBpw) (.bool true))
    clear hbW hkW hpW hc0 hc1 hc2 hc3
    have hicap : (i : Int) ≤ (cap : Int) := by omega
    have hi0 : (0 : Int) ≤ (i : Int) := by omega
    generalize HopeM.js (TryL.plain L) i i = ji at *
    go_wp2_with fail
    go_loopw [32] (fun t32 wx => ∃ k : Nat, k ≤ i ∧ t32 = .int .i64 (k : Int) ∧ Box (Blk wx Bp 4 (Tab L.length fun p => .bool (upd (HopeM.js (TryL.plain L) i) i (!HopeM.acc (TryL.plain L) i k) p))) ∧ Box (Blk wx Bi 84 [.int .i64 st, .int .i64 en, .slice ra rd.length rc, .slice wa wrs.length wc]) ∧ Box (Below w.heap.size w wx)) (fun t32 _ => i - (intOf t32).toNat)
    case atStart => exact ⟨0, Nat.zero_le _, rfl, HSt, HKs, HBs⟩
    case round =>
      obtain ⟨k, hk, rfl, HPk, HKk, HBk⟩ := hrel
      by_cases hltk : k < i
      case neg =>
        have hki : k = i := by omega
        have HPn : Box (Blk wr Bp 4 (Tab L.length fun p => .bool (HopeM.js (TryL.plain L) (i + 1) p))) := ⟨by
          have h1 := HPk.out
          rw [hki] at h1
          rw [HopeM.js_succ]; exact h1⟩
        go_wp2_with fail
        go_roundw
        case rel => exact ⟨i + 1, hlt, by go_num, HPn, HBk⟩
        case measure => simp [intOf]; omega
      have hkL : k < L.length := by omega
      obtain ⟨hd0, hd1, hd2, hd3⟩ := HRow.out wr HBk.out k hkL
      have hbr : b < wr.heap.size := by
        rcases (H.out.below HBk.out (Nat.le_refl _)).row with h | ⟨b', off', h1, h2, _⟩
        · rw [h] at hlt; simp at hlt
        · simp only [Option.some.injEq, Addr.mk.injEq, and_true] at h1
          rw [h1.1]; exact h2
      have hk1 := HPk.out.tabCell hkL
      simp only [upd, if_neg (show ¬ k = i by omega)] at hk1
      have HAcc := box (HopeM.acc_succ (TryL.plain L) i k)
      rw [HHits.out k hkL] at HAcc
      have hwl := (HLen.out k hkL).2
      have HSk : Box (∀ wx, Below w.heap.size w wx → (L[k]).Sl wx) := ⟨fun wx hx => HSl.out wx hx k hkL⟩
      obtain ⟨A1, HA1⟩ : ∃ q, Box (HopeM.acc (TryL.plain L) i (k + 1) = q) := ⟨_, ⟨rfl⟩⟩
      rw [HA1.out] at HAcc
      generalize L[k] = y at *
      obtain ⟨⟨st2, en2, rd2, wr2⟩, ra2, rc2, wa2, wc2⟩ := y
      simp only at hd0 hd1 hd2 hd3 HAcc hwl
      have hbs2 := HBk.out.size
      have hBpk := HPk.out.lt
      go_upto_region 12 with (fail)
      refine name_world (fun W2 => Below wr.heap.size wr W2 ∧ Blk W2 wr.heap.size 84 [.int .i64 st2, .int .i64 en2, .slice ra2 rd2.length rc2, .slice wa2 wr2.length wc2] ∧ Blk W2 Bi 84 [.int .i64 st, .int .i64 en, .slice ra rd.length rc, .slice wa wrs.length wc] ∧ Blk W2 Bp 4 (Tab L.length fun p => .bool (upd (HopeM.js (TryL.plain L) i) i (!HopeM.acc (TryL.plain L) i k) p))) ⟨(Below.refl _ _).alloc (Nat.le_refl _) _, Blk.new _ _ _, HKk.out.alloc _, HPk.out.alloc _⟩ ?_
      rintro W2 ⟨hbW2, hkW2, hiW2, hpW2⟩
      have HB2 := box (HBk.out.trans (hbW2.mono hbs2))
      have HI2 := box hiW2
      have HP2 := box hpW2
      have x0 := hiW2.cell (i := 0) rfl
      have x2 := hiW2.cell (i := 2) rfl
      have y1 := hkW2.cell (i := 1) rfl
      have y3 := hkW2.cell (i := 3) rfl
      have z0 : W2.cell? ⟨Bp, k, none⟩ = some (.bool (HopeM.js (TryL.plain L) i k)) := (hbW2.cell (p := ⟨Bp, k, none⟩) hBpk).trans hk1
      obtain ⟨Bk, HBy⟩ : ∃ Bk, Box (wr.heap.size = Bk) := ⟨_, ⟨rfl⟩⟩
      rw [HBy.out] at y1 y3 ⊢
      have hkLc : (k : Int) < (L.length : Int) := by omega
      clear hbW2 hkW2 hiW2 hpW2 hd0 hd1 hd2 hd3 hk1 HBy
      cases hjk : HopeM.js (TryL.plain L) i k with
      | false =>
        rw [hjk] at HAcc z0
        have HE : Box (A1 = HopeM.acc (TryL.plain L) i k) := ⟨by rw [HAcc.out]; simp⟩
        clear hjk HAcc
        go_wp2_with fail
        exact ⟨⟨k + 1, hltk, by go_num, by rw [HA1.out, HE.out]; exact HP2, HI2, HB2⟩, by simp [intOf]; omega⟩
      | true =>
      rw [hjk] at HAcc z0
      clear hjk
      cases hse : decide (st < en2) with
      | false =>
        rw [hse] at HAcc
        have HE : Box (A1 = HopeM.acc (TryL.plain L) i k) := ⟨by rw [HAcc.out]; simp⟩
        clear HAcc
        go_wp2_with fail
        exact ⟨⟨k + 1, hltk, by go_num, by rw [HA1.out, HE.out]; exact HP2, HI2, HB2⟩, by simp [intOf]; omega⟩
      | true =>
      rw [hse] at HAcc
      have Hmeet := box (fun W3 (h3 : Below w.heap.size w W3) => hopeMeet_any wr2 rd wa2 ra wc2 rc W3 (HSk.out W3 h3).wr (HSi.out W3 h3).rd (by omega) (by omega))
      obtain ⟨mt, Hmt⟩ : ∃ q, Box (HopeM.meet wr2 rd = q) := ⟨_, ⟨rfl⟩⟩
      rw [Hmt.out] at HAcc Hmeet
      go_wp2_with fail
      refine (Hmeet.out _ HB2.out).mono ?_
      rintro e W3 ⟨rfl, hb3⟩
      have HB3 := box (below_tr HB2.out hb3)
      have HI3 := box (HI2.out.after hb3)
      have HP3 := box (HP2.out.after hb3)
      clear hb3 z0 y1 y3 x0 x2
      cases mt with
      | false =>
        have HE : Box (A1 = HopeM.acc (TryL.plain L) i k) := ⟨by rw [HAcc.out]; simp⟩
        clear HAcc
        go_wp2_with fail
        exact ⟨⟨k + 1, hltk, by go_num, by rw [HA1.out, HE.out]; exact HP3, HI3, HB3⟩, by simp [intOf]; omega⟩
      | true =>
        have HE : Box (A1 = true) := ⟨by rw [HAcc.out]; simp⟩
        have hcell := HP3.out.tabCell hlt
        have hfz := HP3.out.frozen i
        have HSt2 : Box (Blk (W3.setCell ⟨Bp, i, none⟩ (.bool false)) Bp 4 (Tab L.length fun p => .bool (upd (HopeM.js (TryL.plain L) i) i (!true) p))) := ⟨by
          have h1 := HP3.out.tabSet i (.bool false)
          rw [show (fun p => Value.bool (upd (HopeM.js (TryL.plain L) i) i (!true) p)) = upd (fun p => .bool (upd (HopeM.js (TryL.plain L) i) i (!HopeM.acc (TryL.plain L) i k) p)) i (.bool false) from funext fun p => by
            simp only [upd]; split <;> rfl]
          exact h1⟩
        have HI4 := box (HI3.out.other (p := ⟨Bp, i, none⟩) (fun e => hBpi e.symm) (.bool false))
        have HB4 := box (HB3.out.setCell (p := ⟨Bp, i, none⟩) (by simpa using hBpw) (.bool false))
        clear HAcc HP3
        generalize (upd (HopeM.js (TryL.plain L) i) i (!HopeM.acc (TryL.plain L) i k) i) = ji2 at *
        go_wp2_with fail
        exact ⟨⟨k + 1, hltk, by go_num, by rw [HA1.out, HE.out]; exact HSt2, HI4, HB4⟩, by simp [intOf]; omega⟩
end Go.Proofs.Ytlmibgjflgkalaa
