/- wal.Open: walked. -/
import Derived.Test.YtpeaefeoogcepaaDoorWalW7
namespace Go.Proofs.YtpeaefeoogcepaaDoor
open Go.RowKit Go.Lib
open WalM

namespace WalM
theorem gather_fits {rd : Nat → List UInt8} {size need : Nat} {h : List UInt8} : ∀ (g p : Nat) (acc : List UInt8) {l : List UInt8} {p' : Nat}, p ≤ size → gather rd size h need g p acc = some (l, p') → p ≤ p' ∧ p' ≤ size
  | 0, p, acc, l, p', hp, h => by
    rw [gather] at h
    split at h
    · injection h with h; injection h with _ h; omega
    · cases h
  | g + 1, p, acc, l, p', hp, h => by
    rw [gather] at h
    split at h
    · injection h with h; injection h with _ h; omega
    · split at h
      · cases h
      · split at h
        · have := gather_fits g (p + 1) _ (by omega) h; omega
        · cases h
theorem read_fits {rd : Nat → List UInt8} {size p n : Nat} {q e : Int} {t : List UInt8} (h : readRec rd size p q = some (e, t, n)) : 1 ≤ n ∧ p + n ≤ size := by
  unfold readRec at h
  split at h
  · cases h
  · revert h
    cases hh : headed (rd p) q with
    | none => intro h; cases h
    | some x =>
      obtain ⟨e', all⟩ := x
      dsimp only
      intro h
      split at h
      · cases h
      · revert h
        cases hg : gather rd size (head 2 e' q) ((CodeM.getNat all).2.1 + (CodeM.getNat all).1 + 4) (size - p) (p + 1) all with
        | none => intro h; cases h
        | some y =>
          obtain ⟨l, p'⟩ := y
          dsimp only
          intro h
          have := gather_fits _ _ _ (by omega) hg
          split at h
          · injection h with h; injection h with _ h; injection h with _ h; omega
          · cases h
theorem parse_none {rd : Nat → List UInt8} {size : Nat} {E : Int} {g p q : Nat} {last : Int} (h : readRec rd size p q = none) : parse rd size E g p q last = ([], p, q) := by
  cases g with
  | zero => rfl
  | succ g => rw [parse, h]
theorem parse_off {rd : Nat → List UInt8} {size : Nat} {E : Int} {g p q : Nat} {last x : Int} {t : List UInt8} {k : Nat} (h : readRec rd size p q = some (x, t, k)) (h2 : x < last ∨ E < x) : parse rd size E g p q last = ([], p, q) := by
  cases g with
  | zero => rfl
  | succ g => rw [parse, h]; exact if_pos h2
theorem parse_on {rd : Nat → List UInt8} {size : Nat} {E : Int} {g p q : Nat} {last x : Int} {t : List UInt8} {k : Nat} (h : readRec rd size p q = some (x, t, k)) (h2 : ¬ (x < last ∨ E < x)) : parse rd size E (g + 1) p q last = (t :: (parse rd size E g (p + k) (q + 1) x).1, (parse rd size E g (p + k) (q + 1) x).2) := by
  rw [parse, h]; exact if_neg h2
/-- A log is opened. -/
def openM (d : DiskM) (frm size : Nat) : DiskM × Option (LogM × List (List UInt8)) × Int :=
  if (epochOf (d.seen.getD frm SectM.blank).data.toList).2 ≠ 0 then (d, none, (epochOf (d.seen.getD frm SectM.blank).data.toList).2)
  else if (raiseM d ⟨frm, size, (epochOf (d.seen.getD frm SectM.blank).data.toList).1, (parse (view d frm size) size (epochOf (d.seen.getD frm SectM.blank).data.toList).1 (size + 1) 1 0 0).2.1, (parse (view d frm size) size (epochOf (d.seen.getD frm SectM.blank).data.toList).1 (size + 1) 1 0 0).2.2, false⟩).2.2 ≠ 0 then
    ((raiseM d ⟨frm, size, (epochOf (d.seen.getD frm SectM.blank).data.toList).1, (parse (view d frm size) size (epochOf (d.seen.getD frm SectM.blank).data.toList).1 (size + 1) 1 0 0).2.1, (parse (view d frm size) size (epochOf (d.seen.getD frm SectM.blank).data.toList).1 (size + 1) 1 0 0).2.2, false⟩).1, none,
     (raiseM d ⟨frm, size, (epochOf (d.seen.getD frm SectM.blank).data.toList).1, (parse (view d frm size) size (epochOf (d.seen.getD frm SectM.blank).data.toList).1 (size + 1) 1 0 0).2.1, (parse (view d frm size) size (epochOf (d.seen.getD frm SectM.blank).data.toList).1 (size + 1) 1 0 0).2.2, false⟩).2.2)
  else ((raiseM d ⟨frm, size, (epochOf (d.seen.getD frm SectM.blank).data.toList).1, (parse (view d frm size) size (epochOf (d.seen.getD frm SectM.blank).data.toList).1 (size + 1) 1 0 0).2.1, (parse (view d frm size) size (epochOf (d.seen.getD frm SectM.blank).data.toList).1 (size + 1) 1 0 0).2.2, false⟩).1,
     some ((raiseM d ⟨frm, size, (epochOf (d.seen.getD frm SectM.blank).data.toList).1, (parse (view d frm size) size (epochOf (d.seen.getD frm SectM.blank).data.toList).1 (size + 1) 1 0 0).2.1, (parse (view d frm size) size (epochOf (d.seen.getD frm SectM.blank).data.toList).1 (size + 1) 1 0 0).2.2, false⟩).2.1, (parse (view d frm size) size (epochOf (d.seen.getD frm SectM.blank).data.toList).1 (size + 1) 1 0 0).1), 0)
/-- What Open leaves: the disk moved, the log in a block of its own, the texts in a row of the call's own. -/
def OpenP (w : World) (base D : Nat) (vs ve vl : Value) (r : DiskM × Option (LogM × List (List UInt8)) × Int) (e : Ending) (w' : World) : Prop :=
  ∃ vl', SectM.Mv w base D vs ve vl r.1 vl' w' ∧
    match r.2.1 with
    | none => e = .returned (.tuple #[.pointer none, .slice none 0 0, .int .i64 r.2.2])
    | some (l, ts) => ∃ Lb v, e = .returned (.tuple #[.pointer (some ⟨Lb, 0, none⟩), v, .int .i64 r.2.2]) ∧ w.heap.size ≤ Lb ∧ Blk w' Lb 45 (logCells D l) ∧ ¬ SectM.Mine D vs ve vl' Lb ∧
      w'.ownsRow w.heap.size 9 1 v ts.length (secVals ts)
theorem openM_none {d : DiskM} {frm size : Nat} {E : Int × Int} (hE : epochOf (d.seen.getD frm SectM.blank).data.toList = E) (h : E.2 ≠ 0) : openM d frm size = (d, none, E.2) := by
  unfold openM
  rw [hE, if_pos h]
theorem openM_is {d : DiskM} {frm size : Nat} {E : Int} (hE : epochOf (d.seen.getD frm SectM.blank).data.toList = (E, 0)) {x : List (List UInt8) × Nat × Nat} (hx : parse (view d frm size) size E (size + 1) 1 0 0 = x) {r : DiskM × LogM × Int} (hr : raiseM d ⟨frm, size, E, x.2.1, x.2.2, false⟩ = r) :
    openM d frm size = if r.2.2 ≠ 0 then (r.1, none, r.2.2) else (r.1, some (r.2.1, x.1), 0) := by
  unfold openM
  rw [hE]
  dsimp only
  rw [hx, hr, if_neg (by simp)]
end WalM
set_option maxHeartbeats 1000000 in
theorem diskLen_any (w : World) (base D : Nat) (vs ve vl : Value) (d : DiskM) (h : SectM.At w base D vs ve vl d) (h1 : 1 ≤ d.safe.length) :
    Calls Tryd.prog 19 #[.pointer (some ⟨D, 0, none⟩)] w fun e w' => e = .returned (.int .i64 (d.safe.length : Int)) ∧ w = w' := by
  obtain ⟨gs, cs, rfl, hcs⟩ := h.rowS h1
  have y0 := h.blk.cell (i := 0) rfl
  have hDl := h.blk.lt
  clear h
  generalize d.safe.length = m at *
  go_enter Tryd.func19, Tryd.ntmps19
  go_wp2_with fail
  go_ret
  exact ⟨rfl, rfl⟩
set_option maxRecDepth 20000 in
set_option maxHeartbeats 4000000 in
theorem walOpen_any (w : World) (base D : Nat) (vs ve vl : Value) (d : DiskM) (n : Nat) (h : SectM.At w base D vs ve vl d) (hg : SectM.Good n d) (hbs : base ≤ w.heap.size) (h1 : 1 ≤ n) (h2 : n ≤ 256) (hl : d.left ≠ 0) (hlate : d.late.length ≤ 500000) (frm size : Nat) (hs : 2 ≤ size) (hfit : frm + size ≤ n) :
    Calls Tryd.prog 8 #[.pointer (some ⟨D, 0, none⟩), .int .i64 (frm : Int), .int .i64 (size : Int)] w (OpenP w base D vs ve vl (openM d frm size)) := by
  obtain ⟨i0, hi0, hz0, hz1, hz2⟩ := info_parts Tryd.infoStrW
  have H := box h
  have HG := box hg
  have hsf := hg.safe
  have hLen := diskLen_any w base D vs ve vl d h (by omega)
  rw [hsf] at hLen
  have HLen := box hLen
  have HRd0 := box (fun (wx : World) (hb : Below w.heap.size w wx) => sectRead_any wx base D vs ve vl d (h.below hb) (by rw [hg.seen, hg.safe]) (by omega) (by omega) (frm : Int))
  have e0 : SectM.readE d (frm : Int) = 0 := by
    unfold SectM.readE
    rw [if_neg (by omega), if_neg hl]
  have e1 : SectM.readV d (frm : Int) = BA (d.seen.getD frm SectM.blank).data.toList := by
    unfold SectM.readV
    rw [if_pos e0, BA_of, Int.toNat_natCast]
  rw [e0, e1] at HRd0
  have hal : (d.seen.getD frm SectM.blank).data.toList.length = 64 := by
    have h3 : frm < d.seen.length := by rw [hg.seen]; omega
    rw [List.getD_eq_getElem?_getD, List.getElem?_eq_getElem h3]
    exact hg.sz.2.1 _ (List.getElem_mem h3)
  have HEp := box (fun (wx : World) => walEpochOf_any (d.seen.getD frm SectM.blank).data.toList wx hal)
  have HN1 := box (fun (E : Int × Int) (hE : epochOf (d.seen.getD frm SectM.blank).data.toList = E) (h : E.2 ≠ 0) => openM_none (size := size) hE h)
  have HN2 := box (fun (E : Int) (hE : epochOf (d.seen.getD frm SectM.blank).data.toList = (E, 0)) => @openM_is d frm size E hE)
  have HEr : Box (0 ≤ (epochOf (d.seen.getD frm SectM.blank).data.toList).1 ∧ (epochOf (d.seen.getD frm SectM.blank).data.toList).1 ≤ 1000000) := ⟨by
    unfold epochOf
    split
    · exact ⟨by show (0 : Int) ≤ 0; omega, by show (0 : Int) ≤ 1000000; omega⟩
    · split
      · exact ⟨by show (0 : Int) ≤ 0; omega, by show (0 : Int) ≤ 1000000; omega⟩
      · rename_i h3
        refine ⟨Int.not_lt.1 fun h4 => h3 (Or.inr (Or.inl h4)), Int.not_lt.1 fun h4 => h3 (Or.inr (Or.inr (Or.inl h4)))⟩⟩
  obtain ⟨A, HA⟩ : ∃ x, Box (BA (d.seen.getD frm SectM.blank).data.toList = x) := ⟨_, ⟨rfl⟩⟩
  obtain ⟨EE, HEE⟩ : ∃ x, Box (epochOf (d.seen.getD frm SectM.blank).data.toList = x) := ⟨_, ⟨rfl⟩⟩
  rw [HA.out] at HRd0
  rw [HA.out, HEE.out] at HEp
  rw [HEE.out] at HN1 HN2 HEr
  obtain ⟨E, er⟩ := EE
  dsimp only at HEp HEr
  obtain ⟨R, HR⟩ : ∃ x, Box (openM d frm size = x) := ⟨_, ⟨rfl⟩⟩
  rw [HR.out] at HN1 HN2 ⊢
  obtain ⟨PP, HPP⟩ : ∃ x, Box (OpenP w base D vs ve vl R = x) := ⟨_, ⟨rfl⟩⟩
  rw [HPP.out]
  have HErr : Box (∀ (w' : World) (d' : DiskM) (vl' : Value) (e : Int), R = (d', none, e) → SectM.Mv w base D vs ve vl d' vl' w' → PP (.returned (.tuple #[.pointer none, .slice none 0 0, .int .i64 e])) w') := ⟨fun w' d' vl' e h3 h4 => by
    rw [← HPP.out, h3]
    exact ⟨vl', h4, rfl⟩⟩
  have HMvB : Box (∀ wx, Below w.heap.size w wx → SectM.Mv w base D vs ve vl d vl wx) := ⟨fun wx hb => ⟨H.out.below hb, KeptS.of_below hb, fun _ h => Or.inr h⟩⟩
  clear h hg hsf hLen e0 e1 hal
  have d1 : decide ((frm : Int) < 0) = false := decide_eq_false (by omega)
  have d2 : decide ((size : Int) < 2) = false := decide_eq_false (by omega)
  have d3 : decide ((n : Int) < (frm : Int)) = false := decide_eq_false (by omega)
  have d4 : decide ((n : Int) - (frm : Int) < (size : Int)) = false := decide_eq_false (by omega)
  go_enter Tryd.func8, Tryd.ntmps8
  go_wp2_with fail
  refine HLen.out.mono ?_
  rintro e w' ⟨rfl, rfl⟩
  go_wp2_with fail
  refine HLen.out.mono ?_
  rintro e w' ⟨rfl, rfl⟩
  clear HLen
  go_upto_region 4 with (fail)
  obtain ⟨Lb, HLb⟩ : ∃ x, Box (w.heap.size = x) := ⟨_, ⟨rfl⟩⟩
  refine name_world (fun W => Below w.heap.size w W ∧ Blk W w.heap.size 45 (logCells D ⟨frm, size, 0, 1, 0, false⟩))
    ⟨(Below.refl _ _).alloc (Nat.le_refl _) _, Blk.new _ _ _⟩ ?_
  rintro W ⟨hbW, hLW⟩
  rw [HLb.out] at hLW ⊢
  have HBW := box hbW
  have HLW := box hLW
  clear hbW hLW d1 d2 d3 d4
  go_wp2_with fail
  refine (HRd0.out W HBW.out).mono ?_
  rintro e w' ⟨rfl, rfl⟩
  go_wp2_with fail
  refine (HEp.out W).mono ?_
  rintro e W1 ⟨rfl, hb1⟩
  have HBW1 := box (below_tr HBW.out hb1)
  have HL1 := box (HLW.out.after hb1)
  clear hb1 HEp HRd0
  have c3 := HL1.out.cell (i := 3) rfl
  have f3 := HL1.out.frozen 3
  dsimp only [logCells] at c3
  by_cases her : er = 0
  case neg =>
    have HF := box (HErr.out (W1.setCell ⟨Lb, 3, none⟩ (.int .i64 E)) d vl er (HN1.out (E, er) rfl her) (HMvB.out _ (HBW1.out.setCell (by rw [HLb.out]; exact Nat.le_refl _) _)))
    have q1 : (er != 0) = true := by simpa using her
    clear her HN1 HN2 HErr
    go_wp2_with fail
    exact HF.out
  subst her
  replace HN2 := box (@fun x h r => HN2.out E rfl (x := x) h (r := r))
  clear HN1
  go_upto_region 8 with (fail)
  refine name_world (fun W2 => Below w.heap.size w W2 ∧ Blk W2 Lb 45 (logCells D ⟨frm, size, E, 1, 0, false⟩))
    ⟨HBW1.out.setCell (by rw [HLb.out]; exact Nat.le_refl _) _, HL1.out.set 3 _⟩ ?_
  rintro W2 ⟨hbW, hLW⟩
  have HB2 := box hbW
  have HL2 := box hLW
  clear hbW hLW HBW HLW HBW1 HL1 c3 f3 W W1
  obtain ⟨rd, Hrd⟩ : ∃ x, Box (view d frm size = x) := ⟨_, ⟨rfl⟩⟩
  have HRd : Box (∀ (p q : Nat) (wx : World), Below w.heap.size w wx → Blk wx Lb 45 (logCells D ⟨frm, size, E, p, q, false⟩) → 1 ≤ p → p ≤ 300 → q ≤ 300 →
      Calls Tryd.prog 22 #[.pointer (some ⟨Lb, 0, none⟩), .int .i64 (p : Int), .int .i64 (q : Int)] wx fun e w' => ∃ (x : Int) (T : ByteArray) (k : Nat) (b : Bool), e = .returned (.tuple #[.agg #[.int .i64 x, .string T, .int .i64 (k : Int)], .bool b]) ∧ Below wx.heap.size wx w' ∧ (b = false → readRec rd size p q = none) ∧ (b = true → ∃ t, T = BA t ∧ readRec rd size p q = some (x, t, k))) := ⟨fun p q wx hb hB hp hp2 hq => by
    refine (walRead_any wx base D vs ve vl d n (H.out.below hb) HG.out h1 h2 hl Lb ⟨frm, size, E, p, q, false⟩ hB hfit p q hp hp2 hq).mono ?_
    rintro e w' ⟨hb1, hr⟩
    dsimp only at hr
    rw [Hrd.out] at hr
    rcases hr with ⟨hr, rfl⟩ | ⟨x, t, k, hr, rfl⟩
    · exact ⟨0, ⟨#[]⟩, 0, false, rfl, hb1, fun _ => hr, fun h => (by cases h)⟩
    · exact ⟨x, BA t, k, true, rfl, hb1, fun h => (by cases h), fun _ => ⟨t, rfl, hr⟩⟩⟩
  rw [Hrd.out] at HN2
  obtain ⟨X, HX⟩ : ∃ x, Box (parse rd size E (size + 1) 1 0 0 = x) := ⟨_, ⟨rfl⟩⟩
  replace HN2 := box (HN2.out X HX.out)
  go_upto_region 10 with (fail)
  iterate 8 go_step
  go_cut [12] from 12 to 114 (fun t12 wx => ∃ v, t12 = v ∧ Box (Below w.heap.size w wx ∧ Blk wx Lb 45 (logCells D ⟨frm, size, E, X.2.1, X.2.2, false⟩) ∧ wx.ownsRow w.heap.size 9 1 v X.1.length (secVals X.1)))
  case first =>
    go_wp2_with fail
    go_loopg [12, 13] size (fun f t12 t13 wr => ∃ (p q g : Nat) (last : Int) (ts : List (List UInt8)) (v : Value), t12 = v ∧ t13 = .int .i64 last ∧ f + p = size + 1 ∧ 1 ≤ p ∧ p ≤ size ∧ q + 1 ≤ p ∧ ts.length = q ∧
      Box (size + 2 ≤ g + p ∧ ts ++ (parse rd size E g p q last).1 = X.1 ∧ (parse rd size E g p q last).2 = X.2 ∧ Below w.heap.size w wr ∧ Blk wr Lb 45 (logCells D ⟨frm, size, E, p, q, false⟩) ∧ wr.ownsRow w.heap.size 9 1 v ts.length (secVals ts)))
    case atStart =>
      exact ⟨1, 0, size + 1, 0, [], _, rfl, rfl, by omega, by omega, by omega, by omega, rfl, ⟨by omega, by rw [HX.out]; rfl, by rw [HX.out], HB2.out, HL2.out, World.ownsRow_nil _ _ _ _⟩⟩
    case round =>
      obtain ⟨p, q, g, last, ts, v, rfl, rfl, e1, p1, p2, q1, hK, hI⟩ := hrel
      have HI := hI
      clear hI
      have HBr := box HI.out.2.2.2.1
      have HLr := box HI.out.2.2.2.2.1
      have hLt := HLr.out.lt
      have hLw := HBr.out.size
      have c4 := HLr.out.cell (i := 4) rfl
      have c5 := HLr.out.cell (i := 5) rfl
      dsimp only [logCells] at c4 c5
      have HRr := box (HRd.out p q)
      have HSp : Box (∀ wx, Below wr.heap.size wr wx → wx.cell? ⟨Lb, 4, none⟩ = some (.int .i64 (p : Int)) ∧ wx.cell? ⟨Lb, 5, none⟩ = some (.int .i64 (q : Int))) := ⟨fun wx h => ⟨(HLr.out.after h).cell rfl, (HLr.out.after h).cell rfl⟩⟩
      have HZ : Box (∀ w9, Below (wr.alloc (.cells #[.int .i64 0, .string ⟨#[]⟩, .int .i64 0] 54)).drew.heap.size (wr.alloc (.cells #[.int .i64 0, .string ⟨#[]⟩, .int .i64 0] 54)).drew w9 → Blk w9 wr.heap.size 54 [.int .i64 0, .string ⟨#[]⟩, .int .i64 0]) := ⟨fun w9 h => (Blk.new wr [.int .i64 0, .string ⟨#[]⟩, .int .i64 0] 54).drew.after h⟩
      go_upto_region 13 with (fail)
      go_cut [14, 15] from 69 to 81 (fun t14 t15 wx => ∃ (Q : Nat) (x : Int) (T : ByteArray) (k : Nat) (b : Bool), t14 = .pointer (some ⟨Q, 0, none⟩) ∧ t15 = .bool b ∧
        Box (Blk wx Q 54 [.int .i64 x, .string T, .int .i64 (k : Int)] ∧ wr.heap.size ≤ Q ∧ Below wr.heap.size wr wx ∧ (b = false → readRec rd size p q = none) ∧ (b = true → ∃ t, T = BA t ∧ readRec rd size p q = some (x, t, k))))
      case first =>
        go_region_held3 (fun w' => w'.cell? ⟨Lb, 4, none⟩ = some (.int .i64 (p : Int)) ∧ w'.cell? ⟨Lb, 5, none⟩ = some (.int .i64 (q : Int))) (first | exact ⟨c4, c5⟩ | exact ⟨k4, k5⟩ | assumption | (refine HSp.out _ ?_; (repeat (first | exact HB9.out | exact Below.refl _ _ | refine Below.drew ?_ | refine Below.alloc ?_ (by first | omega | (simp; omega) | simp) _ | refine Below.setCell ?_ (by first | omega | (simp; omega) | simp) _)))) (first
          | (go_at_call 22; refine (HRr.out _ (by (repeat (first | exact HBr.out | refine Below.drew ?_ | refine Below.alloc ?_ (by first | omega | (simp; omega) | simp) _))) (by (repeat (first | exact HLr.out | refine Blk.drew ?_ | refine Blk.alloc ?_ _))) p1 (by omega) (by omega)).mono ?_; rintro e w9 ⟨x, T, k, b, rfl, hb9, hn9, hy9⟩; have HL9 : Box (Blk w9 Lb 45 (logCells D ⟨frm, size, E, p, q, false⟩)) := ⟨Blk.after (by (repeat (first | exact HLr.out | refine Blk.drew ?_ | refine Blk.alloc ?_ _))) hb9⟩; have k4 := HL9.out.cell (i := 4) rfl; have k5 := HL9.out.cell (i := 5) rfl; dsimp only [logCells] at k4 k5; have HB9 : Box (Below wr.heap.size wr w9) := ⟨below_tr (by (repeat (first | exact Below.refl _ _ | refine Below.drew ?_ | refine Below.alloc ?_ (by first | omega | (simp; omega) | simp) _))) hb9⟩; have hs9 := HB9.out.size;
             (try (have hz9 := HZ.out w9 hb9; have l9 := hz9.lt; have g0 := hz9.cell (i := 0) rfl; have g1 := hz9.cell (i := 1) rfl; have g2 := hz9.cell (i := 2) rfl; have e0 := hz9.frozen 0; have e1 := hz9.frozen 1; have e2 := hz9.frozen 2; have HZ9 := box hz9; clear hz9)); have HN9 := box hn9; have HY9 := box hy9; clear hb9 hn9 hy9)
          | fail)
        · go_step
          go_step
          go_meet
          exact ⟨_, x, T, k, b, rfl, rfl, ⟨Blk.new w9 _ _, hs9, HB9.out.alloc hs9 _, HN9.out, HY9.out⟩⟩
        · go_step
          go_step
          go_meet
          exact ⟨_, x, T, k, b, rfl, rfl, ⟨((HZ9.out.set 0 _).set 1 _).set 2 _, Nat.le_refl _, ((HB9.out.setCell (Nat.le_refl _) _).setCell (Nat.le_refl _) _).setCell (Nat.le_refl _) _, HN9.out, HY9.out⟩⟩
      case rest =>
      obtain ⟨Q, x, T, k, b, rfl, rfl, hcc⟩ := hcut
      have HC := hcc
      clear hcc
      have HLc := box (HLr.out.after HC.out.2.2.1)
      have HBc := box (below_tr HBr.out HC.out.2.2.1)
      have HOc := box (ownsRow_below HI.out.2.2.2.2.2 HC.out.2.2.1)
      have HQL : Box (Q ≠ Lb) := ⟨by have := HC.out.2.1; omega⟩
      have HEnd : Box (parse rd size E g p q last = ([], p, q) → ∀ wx, Below wc.heap.size wc wx → Box (Below w.heap.size w wx ∧ Blk wx Lb 45 (logCells D ⟨frm, size, E, X.2.1, X.2.2, false⟩) ∧ wx.ownsRow w.heap.size 9 1 u12 X.1.length (secVals X.1))) := ⟨fun hp wx hb => by
        have a1 := HI.out.2.1; have a2 := HI.out.2.2.1
        rw [hp] at a1 a2
        dsimp only at a1 a2
        rw [← a2, ← a1, List.append_nil]
        exact ⟨below_tr HBc.out hb, HLc.out.after hb, ownsRow_below HOc.out hb⟩⟩
      clear c4 c5 hLt hLw HRr HBr HLr
      have c3 := HLc.out.cell (i := 3) rfl
      have c4 := HLc.out.cell (i := 4) rfl
      have c5 := HLc.out.cell (i := 5) rfl
      have f4 := HLc.out.frozen 4
      have hLl := HLc.out.lt
      dsimp only [logCells] at c3 c4 c5
      have y0 := HC.out.1.cell (i := 0) rfl
      have y1 := HC.out.1.cell (i := 1) rfl
      have y2 := HC.out.1.cell (i := 2) rfl
      have hQl := HC.out.1.lt
      cases b with
      | false =>
        have HF := box (HEnd.out (parse_none (HC.out.2.2.2.1 rfl)))
        clear HEnd
        go_wp2_with fail
        go_quiet (fail)
        go_wp2_with fail
        go_meet
        exact ⟨_, rfl, HF.out _ ⟨rfl, rfl, rfl, Nat.le_refl _, fun _ _ => rfl⟩⟩
      | true =>
      obtain ⟨t, hT, hr⟩ := HC.out.2.2.2.2 rfl
      have HT := box hT
      have HR := box hr
      have hk := read_fits hr
      clear hT hr
      by_cases g1 : x < last
      · have HF := box (HEnd.out (parse_off HR.out (Or.inl g1)))
        have d1 : decide (x < last) = true := decide_eq_true g1
        clear HEnd g1
        go_wp2_with fail
        go_quiet (fail)
        go_wp2_with fail
        go_meet
        exact ⟨_, rfl, HF.out _ ⟨rfl, rfl, rfl, Nat.le_refl _, fun _ _ => rfl⟩⟩
      have d1 : decide (x < last) = false := decide_eq_false g1
      by_cases g2 : E < x
      · have HF := box (HEnd.out (parse_off HR.out (Or.inr g2)))
        have d2 : decide (E < x) = true := decide_eq_true g2
        clear HEnd g1 g2
        go_wp2_with fail
        go_quiet (fail)
        go_wp2_with fail
        go_meet
        exact ⟨_, rfl, HF.out _ ⟨rfl, rfl, rfl, Nat.le_refl _, fun _ _ => rfl⟩⟩
      have d2 : decide (E < x) = false := decide_eq_false g2
      obtain ⟨g, rfl⟩ : ∃ g', g = g' + 1 := ⟨g - 1, by have := HI.out.1; omega⟩
      have HPn := box (parse_on (g := g) HR.out (fun h => h.elim g1 g2))
      have w1 : IntKind.i64.wrap ((p : Int) + (k : Int)) = ((p + k : Nat) : Int) := by rw [IntWalk.i64_in _ (by omega)]; omega
      clear HEnd g1 g2
      go_wp2_with fail
      go_quiet (fail)
      go_upto_region 16 with (fail)
      rename World => V8
      go_cut [] from 101 to 109 (fun wx => Box (Below w.heap.size w wx ∧ Blk wx Lb 45 (logCells D ⟨frm, size, E, p + k, q, false⟩) ∧ wx.ownsRow w.heap.size 9 1 u12 q (secVals ts) ∧ Blk wx Q 54 [.int .i64 x, .string T, .int .i64 (k : Int)]))
      case first =>
        have hne := HLc.out.ne_own HOc.out (by decide)
        have HFin : Box (∀ m, Below w.heap.size w ((V8.drewN m).setCell ⟨Lb, 4, none⟩ (.int .i64 ((p : Int) + (k : Int)))) ∧ Blk ((V8.drewN m).setCell ⟨Lb, 4, none⟩ (.int .i64 ((p : Int) + (k : Int)))) Lb 45 (logCells D ⟨frm, size, E, p + k, q, false⟩) ∧ ((V8.drewN m).setCell ⟨Lb, 4, none⟩ (.int .i64 ((p : Int) + (k : Int)))).ownsRow w.heap.size 9 1 u12 q (secVals ts) ∧ Blk ((V8.drewN m).setCell ⟨Lb, 4, none⟩ (.int .i64 ((p : Int) + (k : Int)))) Q 54 [.int .i64 x, .string T, .int .i64 (k : Int)]) := ⟨fun m => by
          have hd : Below V8.heap.size V8 (V8.drewN m) := ⟨rfl, rfl, rfl, Nat.le_refl _, fun _ _ => rfl⟩
          refine ⟨(below_tr HBc.out hd).setCell (by rw [HLb.out]; exact Nat.le_refl _) _, ?_, ?_, ((HC.out.1.after hd).other HQL.out _)⟩
          · have := (HLc.out.after hd).set 4 (.int .i64 ((p : Int) + (k : Int)))
            rw [show ((p : Int) + (k : Int)) = ((p + k : Nat) : Int) by omega] at this ⊢
            exact this
          · have := ownsRow_setCell_other (ownsRow_below HOc.out hd) (a := ⟨Lb, 4, none⟩) hne (.int .i64 ((p : Int) + (k : Int)))
            rw [hK] at this
            exact this⟩
        clear hne
        go_region_with (fail)
        all_goals
          go_step
          go_step
          go_meet
          exact ⟨HFin.out _⟩
      case rest =>
      have HD := hcut
      clear hcut c3 c4 c5 f4 hLl y0 y1 y2 hQl d1 d2 HLc HBc HOc HC w1
      have HO := box HD.out.2.2.1
      have hsz := HD.out.1.size
      have y1 := HD.out.2.2.2.cell (i := 1) rfl
      have hQl := HD.out.2.2.2.lt
      obtain ⟨ua, uc, rfl⟩ : ∃ (g : Option Addr) (gc : Nat), u12 = .slice g q gc := by
        rcases HO.out.2 with ⟨h, h0⟩ | ⟨g, cap, cur, h, _⟩
        · exact ⟨none, 0, by rw [h, h0]⟩
        · exact ⟨_, _, h⟩
      have hown5 := HO.out.alloc (.cells #[.string T] 9)
      go_wp2_with (at_builtin; go_must (refine wpList_append_lies _ rfl _ _ 22 rfl w.heap.size 9 i0 _ 1 16 Tryd.underlying22 hi0 hz0 hz1 hz2 rfl (by decide) _ _ _ rfl hown5 ⟨wc.heap.size, 0, none⟩ 1 1 [.string T] rfl rfl (cells_new wc [.string T] 9) (by simp [Value.oneCell']) (by decide) (by unfold maxLen; omega) (by omega) (by simp; omega) (wc.heap.size + 1) (by simp) ?_))
      intro gg gcap w7 hown7 hgrow7 hat7 hlt7
      have HB7 : Box (Below w.heap.size w w7) := ⟨(HD.out.1.alloc hsz _).grown hgrow7 (by simp; omega) (fun b hb => (HO.out.lt b hb).1)⟩
      have HO7 : Box (w7.ownsRow w.heap.size 9 1 (.slice (some ⟨gg, 0, none⟩) (q + 1) gcap) (q + 1) (secVals ts ++ [.string T])) := ⟨hown7⟩
      have HL7 : Box (Blk w7 Lb 45 (logCells D ⟨frm, size, E, p + k, q, false⟩)) := ⟨(HD.out.2.1.alloc _).grown hgrow7 (HD.out.2.1.ne_own HO.out (by decide))⟩
      clear hown7 hgrow7 hat7 hlt7 hown5 HD HO y1 hQl hsz
      have hg7 : Box (gg ≠ Lb) := ⟨fun e => HL7.out.ne_own HO7.out (by decide) (by simp [Value.ownBlock, e])⟩
      have HL8 := box (HL7.out.set 5 (.int .i64 ((q : Int) + 1)))
      have HB8 := box (HB7.out.setCell (p := ⟨Lb, 5, none⟩) (by rw [HLb.out]; exact Nat.le_refl _) (.int .i64 ((q : Int) + 1)))
      have HO8 := box (ownsRow_setCell_other HO7.out (a := ⟨Lb, 5, none⟩) (by simp [Value.ownBlock]; exact hg7.out) (.int .i64 ((q : Int) + 1)))
      have c5 := HL7.out.cell (i := 5) rfl
      have f5 := HL7.out.frozen 5
      have hl7 := HL7.out.lt
      dsimp only [logCells] at c5
      have w2 : IntKind.i64.wrap ((q : Int) + 1) = (q : Int) + 1 := IntWalk.i64_in _ (by omega)
      go_wp2_with fail
      go_roundg (size + 1 - (p + k))
      case measure => omega
      case rel =>
        refine ⟨p + k, q + 1, g, x, ts ++ [t], _, rfl, rfl, by omega, by omega, by omega, by omega, by rw [List.length_append, hK]; rfl, ⟨by have := HI.out.1; omega, ?_, ?_, HB8.out, HL8.out, ?_⟩⟩
        · have := HI.out.2.1
          rw [HPn.out] at this
          rw [List.append_assoc]
          exact this
        · have := HI.out.2.2.1
          rw [HPn.out] at this
          exact this
        · have := HO8.out
          rw [List.length_append, hK]
          unfold secVals at this ⊢
          rw [List.map_append]
          rw [HT.out] at this
          exact this
  case rest =>
  obtain ⟨v, hv, hc⟩ := hcut
  have HE := hc
  clear hc HRd HB2 HL2 Hrd
  have HLI : Box (LogIn wc base D vs ve vl d n Lb ⟨frm, size, E, X.2.1, X.2.2, false⟩) := ⟨⟨H.out.below HE.out.1, HG.out, HE.out.2.1, fun hm => by
    have := (H.out.mine_lt hm).2
    have := HLb.out
    omega, by rw [← HLb.out]; exact hbs, h1, h2, by omega, Nat.le_trans hbs HE.out.1.size⟩⟩
  have HRs := box (walRaise_any HLI.out ⟨HEr.out.1, by have := HEr.out.2; show E ≤ 1000001; omega⟩ (by show frm ≤ 300; omega))
  obtain ⟨d', l', er, hr⟩ : ∃ d' l' er, raiseM d ⟨frm, size, E, X.2.1, X.2.2, false⟩ = (d', l', er) := ⟨_, _, _, rfl⟩
  have HRv := box (HN2.out _ hr)
  rw [hr] at HRs
  dsimp only at HRs HRv
  clear hr HN2
  have HMv : Box (∀ vl' w', LogMv wc base D vs ve vl Lb d' l' vl' w' → SectM.Mv w base D vs ve vl d' vl' w') := ⟨fun vl' w' k => ⟨k.at_, (KeptS.of_below HE.out.1).trans k.kept (fun b hb hm => by
      rcases hm with rfl | hm
      · have := HLb.out; omega
      · exact hm), fun b hb => by
      rcases k.own b hb with h3 | h3
      · exact Or.inl (Nat.le_trans HE.out.1.size h3)
      · exact Or.inr h3⟩⟩
  subst hv
  go_wp2_with fail
  refine HRs.out.mono ?_
  rintro e w' ⟨rfl, vl', hm⟩
  have HM := box hm
  clear hm HRs
  by_cases her : er = 0
  case neg =>
    have HF := box (HErr.out w' d' vl' er (by rw [HRv.out, if_pos her]) (HMv.out _ _ HM.out))
    have q1 : (er != 0) = true := by simpa using her
    clear her HErr HRv
    go_wp2_with fail
    exact HF.out
  subst her
  have HF : Box (PP (.returned (.tuple #[.pointer (some ⟨Lb, 0, none⟩), u12, .int .i64 0])) w') := ⟨by
    have hrv := HRv.out
    rw [if_neg (fun h => h rfl)] at hrv
    rw [← HPP.out, hrv]
    refine ⟨vl', HMv.out _ _ HM.out, Lb, u12, rfl, by rw [HLb.out]; exact Nat.le_refl _, HM.out.log, HM.out.ap HLI.out.log.lt HLI.out.ap, HM.out.kept.own HE.out.2.2 (fun b hb hm => ?_)⟩
    rcases hm with rfl | hm
    · exact HE.out.2.1.ne_own HE.out.2.2 (by decide) hb
    · have h3 := (H.out.mine_lt hm).2
      have h4 := (HE.out.2.2.lt b hb).1
      omega⟩
  clear HErr HRv HM HMv HE HLI
  go_wp2_with fail
  exact HF.out
end Go.Proofs.YtpeaefeoogcepaaDoor
