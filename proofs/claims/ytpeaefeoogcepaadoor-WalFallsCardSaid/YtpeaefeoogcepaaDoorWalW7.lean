/- wal.Reset: walked. -/
import Derived.Test.YtpeaefeoogcepaaDoorWalW6
import Derived.Test.YtpeaefeoogcepaaDoorPutR
namespace Go.Proofs.YtpeaefeoogcepaaDoor
open Go.RowKit Go.Lib
open WalM

namespace WalM
/-- The midst of Reset's one write. -/
structure ResS (w2 : World) (base D : Nat) (vs ve vl2 : Value) (Lb : Nat) (D1 D2 : DiskM) (l1 : LogM) (P : ByteArray) (b14 b15 b17 : Bool) (v14 v15 : Value) (W : World) : Prop where
  pre : b17 = false → LogMv w2 base D vs ve vl2 Lb D1 l1 vl2 W
  sec : b14 = true → b17 = false → ∃ g gc, v14 = .slice (some ⟨g, 0, none⟩) 1 gc ∧ W.cell? ⟨g, 0, none⟩ = some (.string P)
  idx : b15 = true → b17 = false → ∃ g, v15 = .pointer (some ⟨g, 0, none⟩) ∧ W.cell? ⟨g, 0, none⟩ = some (.string P)
  post : b17 = true → ∃ vl4, LogMv w2 base D vs ve vl2 Lb D2 l1 vl4 W
section
variable {w2 W W' : World} {base D Lb : Nat} {vs ve vl2 : Value} {D1 D2 : DiskM} {l1 : LogM} {P : ByteArray} {b14 b15 b17 : Bool} {v14 v15 : Value}
theorem ResS.start (h : LogMv w2 base D vs ve vl2 Lb D1 l1 vl2 W) : ResS w2 base D vs ve vl2 Lb D1 D2 l1 P false false false v14 v15 W :=
  ⟨fun _ => h, (fun h => by cases h), (fun h => by cases h), (fun h => by cases h)⟩
theorem ResS.sec14 (h : ResS w2 base D vs ve vl2 Lb D1 D2 l1 P b14 false false v14 v15 W) (hb : Below W.heap.size W W') {g gc : Nat} (hc : W'.cell? ⟨g, 0, none⟩ = some (.string P)) : ResS w2 base D vs ve vl2 Lb D1 D2 l1 P true false false (.slice (some ⟨g, 0, none⟩) 1 gc) v15 W' :=
  ⟨fun _ => (h.pre rfl).below hb, fun _ _ => ⟨g, gc, rfl, hc⟩, (fun h => by cases h), (fun h => by cases h)⟩
theorem ResS.idx15 (h : ResS w2 base D vs ve vl2 Lb D1 D2 l1 P true b15 false v14 v15 W) {g : Nat} (hc : W.cell? ⟨g, 0, none⟩ = some (.string P)) : ResS w2 base D vs ve vl2 Lb D1 D2 l1 P true true false v14 (.pointer (some ⟨g, 0, none⟩)) W :=
  ⟨h.pre, h.sec, fun _ _ => ⟨g, rfl, hc⟩, (fun h => by cases h)⟩
theorem ResS.done (h : ∃ vl4, LogMv w2 base D vs ve vl2 Lb D2 l1 vl4 W) : ResS w2 base D vs ve vl2 Lb D1 D2 l1 P b14 b15 true v14 v15 W :=
  ⟨(fun h => by cases h), (fun _ h => by cases h), (fun _ h => by cases h), fun _ => h⟩
end
/-- The first sector of a log that is begun anew. -/
def firstS (e : Int) (t : List UInt8) : List UInt8 := (sectors e 0 t).headD []
def resetM (d : DiskM) (l : LogM) (t : List UInt8) : DiskM × LogM × Int :=
  if l.fell = true then (d, l, 10)
  else if 300 < t.length then (d, l, 2)
  else if 1 < (sectors (l.ep + 1) 0 t).length then (d, l, 8)
  else if (raiseM d l).2.2 ≠ 0 then raiseM d l
  else if SectM.wrote (raiseM d l).1 ((l.frm : Int) + 1) (BA (firstS (l.ep + 1) t)) ≠ 0 then
    (SectM.write (raiseM d l).1 ((l.frm : Int) + 1) (BA (firstS (l.ep + 1) t)), fallL (raiseM d l).2.1 (SectM.wrote (raiseM d l).1 ((l.frm : Int) + 1) (BA (firstS (l.ep + 1) t))), SectM.wrote (raiseM d l).1 ((l.frm : Int) + 1) (BA (firstS (l.ep + 1) t)))
  else if SectM.flushed (SectM.write (raiseM d l).1 ((l.frm : Int) + 1) (BA (firstS (l.ep + 1) t))) ≠ 0 then
    (SectM.flush (SectM.write (raiseM d l).1 ((l.frm : Int) + 1) (BA (firstS (l.ep + 1) t))), fallL (raiseM d l).2.1 (SectM.flushed (SectM.write (raiseM d l).1 ((l.frm : Int) + 1) (BA (firstS (l.ep + 1) t)))), SectM.flushed (SectM.write (raiseM d l).1 ((l.frm : Int) + 1) (BA (firstS (l.ep + 1) t))))
  else (SectM.flush (SectM.write (raiseM d l).1 ((l.frm : Int) + 1) (BA (firstS (l.ep + 1) t))), { (raiseM d l).2.1 with at_ := 2, seq := 1 }, 0)
theorem raise_good {n : Nat} {d : DiskM} (h : SectM.Good n d) (l : LogM) : SectM.Good n (raiseM d l).1 := by
  unfold raiseM
  split
  · exact h
  · split
    · exact SectM.write_good h _ _
    · split
      · exact SectM.flush_good (SectM.write_good h _ _)
      · exact SectM.flush_good (SectM.write_good h _ _)
theorem flush_late (d : DiskM) : (SectM.flush d).late.length ≤ d.late.length := by
  unfold SectM.flush
  split
  · exact Nat.zero_le _
  · exact Nat.le_refl _
theorem raise_late (d : DiskM) (l : LogM) : (raiseM d l).1.late.length ≤ d.late.length + 1 := by
  have h1 := write_late d l.frm (BA (anchor (l.ep + 1)))
  have h2 := flush_late (SectM.write d l.frm (BA (anchor (l.ep + 1))))
  unfold raiseM
  split
  · exact Nat.le_succ _
  · split
    · exact h1
    · split
      · dsimp only; omega
      · dsimp only; omega
theorem raise_log {d : DiskM} {l : LogM} (h : (raiseM d l).2.2 = 0) : (raiseM d l).2.1 = { l with ep := l.ep + 1 } := by
  unfold raiseM at h ⊢
  split
  · rename_i h1; rw [if_pos h1] at h; have : (8 : Int) = 0 := h; omega
  · rename_i h1
    rw [if_neg h1] at h
    split
    · rename_i h2; rw [if_pos h2] at h; exact absurd h h2
    · rename_i h2
      rw [if_neg h2] at h
      split
      · rename_i h3; rw [if_pos h3] at h; exact absurd h h3
      · rfl
end WalM
set_option maxRecDepth 20000 in
set_option maxHeartbeats 16000000 in
theorem walReset_any {w : World} {base D n Lb : Nat} {vs ve vl : Value} {d : DiskM} {l : LogM} (h : LogIn w base D vs ve vl d n Lb l) (he : 0 ≤ l.ep ∧ l.ep ≤ 1000001) (hsz : l.frm + l.size ≤ n) (hlt : d.late.length ≤ 500000) (t : List UInt8) (htl : t.length ≤ 9223372036854775807) :
    Calls Tryd.prog 14 #[.pointer (some ⟨Lb, 0, none⟩), .string (BA t)] w fun x w' => x = .returned (.int .i64 (resetM d l t).2.2) ∧ MvO w base D vs ve vl Lb (resetM d l t).1 (resetM d l t).2.1 w' := by
  obtain ⟨c0, c1, c2, c3, c4, c5, c6, hLl⟩ := cells_of h.log
  have H := box h
  have HM0 := box h.mv
  have hn2 := h.n2
  obtain ⟨r, Hr0⟩ : ∃ r, Box (resetM d l t = r) := ⟨_, ⟨rfl⟩⟩
  have HR0 : Box (r = if l.fell = true then (d, l, 10) else if 300 < t.length then (d, l, 2) else if 1 < (sectors (l.ep + 1) 0 t).length then (d, l, 8) else r) := ⟨by
    split
    · rename_i h1; rw [← Hr0.out]; unfold resetM; rw [if_pos h1]
    · rename_i h1
      split
      · rename_i h2; rw [← Hr0.out]; unfold resetM; rw [if_neg h1, if_pos h2]
      · rename_i h2
        split
        · rename_i h3; rw [← Hr0.out]; unfold resetM; rw [if_neg h1, if_neg h2, if_pos h3]
        · rfl⟩
  have HR1 : Box (l.fell = false → t.length ≤ 300 → (sectors (l.ep + 1) 0 t).length ≤ 1 → r = if (raiseM d l).2.2 ≠ 0 then raiseM d l
    else if SectM.wrote (raiseM d l).1 ((l.frm : Int) + 1) (BA (firstS (l.ep + 1) t)) ≠ 0 then
    (SectM.write (raiseM d l).1 ((l.frm : Int) + 1) (BA (firstS (l.ep + 1) t)), fallL (raiseM d l).2.1 (SectM.wrote (raiseM d l).1 ((l.frm : Int) + 1) (BA (firstS (l.ep + 1) t))), SectM.wrote (raiseM d l).1 ((l.frm : Int) + 1) (BA (firstS (l.ep + 1) t)))
    else if SectM.flushed (SectM.write (raiseM d l).1 ((l.frm : Int) + 1) (BA (firstS (l.ep + 1) t))) ≠ 0 then
    (SectM.flush (SectM.write (raiseM d l).1 ((l.frm : Int) + 1) (BA (firstS (l.ep + 1) t))), fallL (raiseM d l).2.1 (SectM.flushed (SectM.write (raiseM d l).1 ((l.frm : Int) + 1) (BA (firstS (l.ep + 1) t)))), SectM.flushed (SectM.write (raiseM d l).1 ((l.frm : Int) + 1) (BA (firstS (l.ep + 1) t))))
    else (SectM.flush (SectM.write (raiseM d l).1 ((l.frm : Int) + 1) (BA (firstS (l.ep + 1) t))), { (raiseM d l).2.1 with at_ := 2, seq := 1 }, 0)) := ⟨fun h1 h2 h3 => by
    rw [← Hr0.out]
    unfold resetM
    rw [if_neg (by rw [h1]; simp), if_neg (by omega), if_neg (by omega)]⟩
  rw [Hr0.out]
  clear h Hr0
  have hTs : (BA t).size = t.length := rfl
  cases hf : l.fell with
  | true =>
    have Hr := box (HR0.out.trans (if_pos hf))
    rw [hf] at c6
    clear HR0 HR1 hf
    generalize BA t = T at *
    go_enter Tryd.func14, Tryd.ntmps14
    go_wp2_with fail
    go_ret
    exact ⟨by rw [Hr.out]; rfl, by rw [Hr.out]; exact ⟨vl, HM0.out⟩⟩
  | false =>
  have HR2 := box (HR0.out.trans (if_neg (by rw [hf]; simp)))
  have HR3 := box (HR1.out hf)
  rw [hf] at c6
  clear HR0 HR1 hf
  by_cases h300 : 300 < t.length
  · have Hr := box (HR2.out.trans (if_pos h300))
    have d3 : decide ((300 : Int) < (t.length : Int)) = true := decide_eq_true (by omega)
    clear HR2 HR3 h300
    generalize BA t = T at *
    go_enter Tryd.func14, Tryd.ntmps14
    go_wp2_with fail
    go_ret
    exact ⟨by rw [Hr.out]; rfl, by rw [Hr.out]; exact ⟨vl, HM0.out⟩⟩
  have HR4 := box (HR2.out.trans (if_neg h300))
  have HR5 := box (HR3.out (by omega))
  have d3 : decide ((300 : Int) < (t.length : Int)) = false := decide_eq_false (by omega)
  obtain ⟨he0, he1⟩ := he
  have HSec := box (fun wx => walSectors_any (l.ep + 1) 0 t wx ⟨by omega, by omega⟩ ⟨by omega, by omega⟩ (by omega))
  have HFs : Box (1 ≤ (sectors (l.ep + 1) 0 t).length ∧ (firstS (l.ep + 1) t).length ≤ 64 ∧ (secVals (sectors (l.ep + 1) 0 t))[0]? = some (.string (BA (firstS (l.ep + 1) t)))) := ⟨by
    have hp := sectors_pos (l.ep + 1) 0 t
    have hform := fun s hs => (sectors_form (e := l.ep + 1) (q := 0) (t := t) (s := s) hs).1
    unfold firstS secVals
    cases hsec : sectors (l.ep + 1) 0 t with
    | nil => rw [hsec] at hp; simp at hp
    | cons a r => rw [hsec] at hform; exact ⟨by simp, hform a List.mem_cons_self, rfl⟩⟩
  have HRs := box (walRaise_any H.out ⟨he0, he1⟩ (by omega))
  have HRg := box (raise_good H.out.good l)
  have HRl := box (raise_late d l)
  have HRe := box (fun h => raise_log (d := d) (l := l) h)
  obtain ⟨SC, HSC⟩ : ∃ x, Box (sectors (l.ep + 1) 0 t = x) := ⟨_, ⟨rfl⟩⟩
  obtain ⟨F1, HF1⟩ : ∃ x, Box (firstS (l.ep + 1) t = x) := ⟨_, ⟨rfl⟩⟩
  rw [HSC.out] at HSec HR4 HR5 HFs
  rw [HF1.out] at HR5 HFs
  obtain ⟨k, Hk⟩ : ∃ x, Box (SC.length = x) := ⟨_, ⟨rfl⟩⟩
  rw [Hk.out] at HSec HR4 HR5 HFs
  obtain ⟨P, HP⟩ : ∃ x, Box (BA F1 = x) := ⟨_, ⟨rfl⟩⟩
  have hPs : P.size ≤ 64 := by rw [← HP.out, BA_size]; exact HFs.out.2.1
  rw [HP.out] at HR5 HFs
  obtain ⟨RR, HRR⟩ : ∃ x, Box (raiseM d l = x) := ⟨_, ⟨rfl⟩⟩
  rw [HRR.out] at HR5 HRs HRg HRl HRe
  obtain ⟨T, HT⟩ : ∃ x, Box (BA t = x) := ⟨_, ⟨rfl⟩⟩
  rw [HT.out] at HSec hTs ⊢
  clear HR2 HR3 h300
  have w1' : IntKind.i64.wrap (l.ep + 1) = l.ep + 1 := IntWalk.i64_in _ (by omega)
  go_enter Tryd.func14, Tryd.ntmps14
  go_wp2_with fail
  refine (HSec.out _).mono ?_
  rintro x w1 ⟨v, rfl, hown1, hb1⟩
  obtain ⟨va, vc, rfl⟩ : ∃ (g : Option Addr) (gc : Nat), v = .slice g k gc := by
    rcases hown1.2 with ⟨h, h0⟩ | ⟨g, cap, cur, h, _⟩
    · exact ⟨none, 0, by rw [h, h0]⟩
    · exact ⟨_, _, h⟩
  have HB1 := box hb1
  clear hown1 hb1
  by_cases hk1 : 1 < k
  · have Hr := box (HR4.out.trans (if_pos hk1))
    have hM1 := box (HM0.out.below HB1.out)
    have dk : decide ((1 : Int) < (k : Int)) = true := decide_eq_true (by omega)
    clear HR4 HR5 hk1 HSec HRs HRe
    go_wp2_with fail
    go_ret
    exact ⟨by rw [Hr.out]; rfl, by rw [Hr.out]; exact ⟨vl, hM1.out⟩⟩
  have dk : decide ((1 : Int) < (k : Int)) = false := decide_eq_false (by omega)
  have hk : k = 1 := by have := HFs.out.1; omega
  have HR6 := box (HR5.out (by omega))
  have HM1 := box (HM0.out.below HB1.out)
  have HK1 := box (HM1.out.in_ H.out H.out.good H.out.late)
  have HRs2 := box (walRaise_any HK1.out ⟨he0, he1⟩ (by omega))
  rw [HRR.out] at HRs2
  have HTr := box (fun (dx : DiskM) (lx : LogM) (wx : World) (m : MvO w1 base D vs ve vl Lb dx lx wx) => (show MvO w base D vs ve vl Lb dx lx wx from let ⟨vlx, m⟩ := m; ⟨vlx, HM1.out.trans m⟩))
  have hk1' : k ≤ 1 := by omega
  clear HR4 HR5 hk1 HRs c0 c1 c2 c3 c4 c5 c6 hLl hk
  obtain ⟨D1, HD1⟩ : ∃ x, Box (RR.1 = x) := ⟨_, ⟨rfl⟩⟩
  obtain ⟨l1, Hl1⟩ : ∃ x, Box (RR.2.1 = x) := ⟨_, ⟨rfl⟩⟩
  obtain ⟨e1, He1⟩ : ∃ x, Box (RR.2.2 = x) := ⟨_, ⟨rfl⟩⟩
  rw [HD1.out, Hl1.out, He1.out] at HRs2 HR6
  rw [HD1.out] at HRg HRl
  rw [Hl1.out, He1.out] at HRe
  go_wp2_with fail
  refine HRs2.out.mono ?_
  rintro x w2 ⟨rfl, vl2, hm2⟩
  have HM2 := box hm2
  clear hm2 HRs2
  by_cases h1 : e1 = 0
  case neg =>
    have Hr : Box (r = (D1, l1, e1)) := ⟨by rw [HR6.out, if_pos h1, ← HD1.out, ← Hl1.out, ← He1.out]⟩
    have hd : (e1 != 0) = true := by simpa using h1
    have hd2 : (e1 == 0) = false := by simpa using h1
    have HFin := box (HTr.out _ _ _ ⟨vl2, HM2.out⟩)
    clear h1 HR6 HSec HRe
    go_wp2_with fail
    go_ret
    exact ⟨by rw [Hr.out]; rfl, by rw [Hr.out]; exact HFin.out⟩
  subst h1
  have HR7 := box (HR6.out.trans (if_neg (by simp)))
  have HL1 := box (HRe.out rfl)
  have HK2 := box (HM2.out.in_ HK1.out HRg.out (by have := HRl.out; omega))
  have HHV := box (fun (dx : DiskM) (vlx : Value) (wx : World) (m : LogMv w2 base D vs ve vl2 Lb dx l1 vlx wx) => cells_of m.log)
  obtain ⟨c0, c1, c2, c3, c4, c5, c6, hLl⟩ := HHV.out D1 vl2 w2 HK2.out.mv
  have HMx := box (fun (wx : World) (hb : Below w2.heap.size w2 wx) => HK2.out.mv.below hb)
  have HWr := box (fun (vlx : Value) (wx : World) (m : LogMv w2 base D vs ve vl2 Lb D1 l1 vlx wx) => logWrite HK2.out m HRg.out (by have := HRl.out; omega) ((l.frm : Int) + 1) P (by omega))
  have HTr2 := box (fun (dx : DiskM) (lx : LogM) (wx : World) (m : MvO w2 base D vs ve vl2 Lb dx lx wx) => (show MvO w base D vs ve vl Lb dx lx wx from HTr.out _ _ _ (let ⟨vlx, m⟩ := m; ⟨vlx, HM2.out.trans m⟩)))
  have HFaV := box (fun (dx : DiskM) (vlx : Value) (wx : World) (e : Int) (m : LogMv w2 base D vs ve vl2 Lb dx l1 vlx wx) => logFall HK2.out m e)
  have hfrm : l1.frm = l.frm := by rw [HL1.out]
  have hep : l1.ep = l.ep + 1 := by rw [HL1.out]
  rw [hfrm] at c1
  rw [hep] at c3
  have HGd := box (SectM.write_good HRg.out ((l.frm : Int) + 1) P)
  obtain ⟨e2, He2⟩ : ∃ x, Box (SectM.wrote D1 ((l.frm : Int) + 1) P = x) := ⟨_, ⟨rfl⟩⟩
  obtain ⟨D2, HD2⟩ : ∃ x, Box (SectM.write D1 ((l.frm : Int) + 1) P = x) := ⟨_, ⟨rfl⟩⟩
  rw [He2.out, HD2.out] at HWr HR7
  rw [HD2.out] at HGd
  have w2' : IntKind.i64.wrap ((l.frm : Int) + 1) = (l.frm : Int) + 1 := IntWalk.i64_in _ (by omega)
  have HFrm := box hfrm; have HEp := box hep
  obtain rfl : k = 1 := by have := HFs.out.1; omega
  clear hk1'
  clear hfrm hep HR6 HRe HM2 HTr c2 c4 c5 c6
  go_wp2_with fail
  go_cut [6] from 29 to 46 (fun s6 wx => s6 = .int .i64 e2 ∧ Box (∃ vl4, LogMv w2 base D vs ve vl2 Lb D2 l1 vl4 wx))
  case first => as_aux_lemma =>
    rename_i J K' hRJ hMK
    obtain ⟨PV, HPV⟩ : ∃ PV : Nat → Option Value, Box (PV = fun i => ([some (.pointer (some ⟨Lb, 0, none⟩)), some (.pointer (some ⟨Lb, 0, none⟩)), some (.pointer (some ⟨Lb, 0, none⟩)), some (.pointer (some ⟨D, 0, none⟩)), some (.pointer (some ⟨Lb, 0, none⟩)), some (.pointer (some ⟨Lb, 0, none⟩)), some (.pointer (some ⟨Lb, 1, none⟩)), some (.int .i64 (l.frm : Int)), some (.int .i64 ((l.frm : Int) + 1)), some (.pointer (some ⟨Lb, 0, none⟩)), some (.pointer (some ⟨Lb, 0, none⟩)), some (.pointer (some ⟨Lb, 3, none⟩)), some (.int .i64 (l.ep + 1)), some (.string T), none, none, some (.string P), some (.int .i64 e2), some (.int .i64 e2)] : List (Option Value)).getD i none) := ⟨_, ⟨rfl⟩⟩
    refine wp_region_dagv (by kernel_rfl) (fun Lf vals wx => (∀ i v, PV i = some v → Lf.getD i false = true → vals i = v) ∧ WalM.ResS w2 base D vs ve vl2 Lb D1 D2 l1 P (Lf.getD 14 false) (Lf.getD 15 false) (Lf.getD 17 false) (vals 14) (vals 15) wx) (by kernel_rfl) ?_ ?_ ?_
    · refine ⟨fun i v _ h => absurd h (by simp [Array.getD_eq_getD_getElem?, Array.getElem?_replicate]; try (split <;> simp)), ?_⟩
      simp only [Array.getD_eq_getD_getElem?, Array.getElem?_replicate, List.size_toArray, List.length_cons, List.length_nil, Nat.reduceAdd, Nat.reduceLT, if_true, Option.getD_some]
      exact WalM.ResS.start (HMx.out _ (Below.refl _ _).drew)
    · intro i hi o ho Lf vals b wx hat haft hL hR
      obtain ⟨hP, hS⟩ := hR
      have hco := hat.const
      have hkeep : ∀ i v, (PV i = some v ∨ PV i = none) → Lf.getD i true = false → (∀ j u, PV j = some u → (Lf.setIfInBounds i true).getD j false = true → Dag.turn vals i v j = u) := fun i v hv hL j u hu hj => by
        by_cases e : j = i
        · subst e; rw [Dag.turn_same]; rcases hv with hv | hv <;> rw [hv] at hu <;> simp at hu; exact hu
        · rw [Dag.turn_other _ _ e]; rw [getD_set_ne false (Ne.symm e)] at hj; exact hP j u hu hj
      have r0 : b.eval (.tmp 0) = .pointer (some ⟨Lb, 0, none⟩) := hat.old 0 (by
        intro j o' hj
        match j with
        | 0 | 1 | 2 | 3 | 4 | 5 | 6 | 7 | 8 | 9 | 10 | 11 | 12 | 13 | 14 | 15 | 16 | 17 | 18 => injection hj with hj; subst hj; simp
        | j + 19 => cases hj)
      have r1 : b.eval (.tmp 1) = .string T := hat.old 1 (by
        intro j o' hj
        match j with
        | 0 | 1 | 2 | 3 | 4 | 5 | 6 | 7 | 8 | 9 | 10 | 11 | 12 | 13 | 14 | 15 | 16 | 17 | 18 => injection hj with hj; subst hj; simp
        | j + 19 => cases hj)
      have hcx : Lf.getD 17 false = false → wx.cell? ⟨Lb, 0, none⟩ = some (.pointer (some ⟨D, 0, none⟩)) ∧ wx.cell? ⟨Lb, 1, none⟩ = some (.int .i64 (l.frm : Int)) ∧ wx.cell? ⟨Lb, 3, none⟩ = some (.int .i64 (l.ep + 1)) := fun h => by
        obtain ⟨m0, m1, _, m3, _⟩ := HHV.out _ _ _ (hS.pre h)
        rw [HFrm.out] at m1
        rw [HEp.out] at m3
        exact ⟨m0, m1, m3⟩
      match i, hi with
      | 0, _ =>
        injection ho with ho
        subst ho
        refine Dag.yields (w' := wx) (.pointer (some ⟨Lb, 0, none⟩)) ?_ ⟨.pointer (some ⟨Lb, 0, none⟩), rfl, hkeep 0 _ (Or.inl (by rw [HPV.out]; rfl)) hL, ?_⟩
        · clear hP hS hat haft hkeep hL
          generalize b.eval = ρ at *
          go_simp
        · simp only [getD_set_ne false (show 0 ≠ 14 by decide), getD_set_ne false (show 0 ≠ 15 by decide), getD_set_ne false (show 0 ≠ 17 by decide), Dag.turn_other vals (i := 0) (j := 14) _ (by decide), Dag.turn_other vals (i := 0) (j := 15) _ (by decide)]
          exact hS
      | 1, _ =>
        injection ho with ho
        subst ho
        have e29 : b.eval (.tmp 29) = .pointer (some ⟨Lb, 0, none⟩) := (hat.new 0 _ 29 (haft ⟨0, .data⟩ (by simp) rfl) rfl rfl).trans (hP 0 _ (by rw [HPV.out]; rfl) (haft ⟨0, .data⟩ (by simp) rfl))
        refine Dag.yields (w' := wx) (.pointer (some ⟨Lb, 0, none⟩)) ?_ ⟨.pointer (some ⟨Lb, 0, none⟩), rfl, hkeep 1 _ (Or.inl (by rw [HPV.out]; rfl)) hL, ?_⟩
        · clear hP hS hat haft hkeep hL
          generalize b.eval = ρ at *
          go_simp
        · simp only [getD_set_ne false (show 1 ≠ 14 by decide), getD_set_ne false (show 1 ≠ 15 by decide), getD_set_ne false (show 1 ≠ 17 by decide), Dag.turn_other vals (i := 1) (j := 14) _ (by decide), Dag.turn_other vals (i := 1) (j := 15) _ (by decide)]
          exact hS
      | 2, _ =>
        injection ho with ho
        subst ho
        have e30 : b.eval (.tmp 30) = .pointer (some ⟨Lb, 0, none⟩) := (hat.new 1 _ 30 (haft ⟨1, .data⟩ (by simp) rfl) rfl rfl).trans (hP 1 _ (by rw [HPV.out]; rfl) (haft ⟨1, .data⟩ (by simp) rfl))
        refine Dag.yields (w' := wx) (.pointer (some ⟨Lb, 0, none⟩)) ?_ ⟨.pointer (some ⟨Lb, 0, none⟩), rfl, hkeep 2 _ (Or.inl (by rw [HPV.out]; rfl)) hL, ?_⟩
        · clear hP hS hat haft hkeep hL
          generalize b.eval = ρ at *
          go_simp
        · simp only [getD_set_ne false (show 2 ≠ 14 by decide), getD_set_ne false (show 2 ≠ 15 by decide), getD_set_ne false (show 2 ≠ 17 by decide), Dag.turn_other vals (i := 2) (j := 14) _ (by decide), Dag.turn_other vals (i := 2) (j := 15) _ (by decide)]
          exact hS
      | 3, _ =>
        injection ho with ho
        subst ho
        have e31 : b.eval (.tmp 31) = .pointer (some ⟨Lb, 0, none⟩) := (hat.new 2 _ 31 (haft ⟨2, .data⟩ (by simp) rfl) rfl rfl).trans (hP 2 _ (by rw [HPV.out]; rfl) (haft ⟨2, .data⟩ (by simp) rfl))
        have h17 : Lf.getD 17 false = false := by
          cases h : Lf.getD 17 false with
          | false => rfl
          | true => have := hat.closed 17 _ h rfl ⟨3, .data⟩ (by simp) rfl; rw [Dag.off hL] at this; cases this
        have x0 := hcx h17
        obtain ⟨x0, x1, x3⟩ := x0
        refine Dag.yields (w' := wx) (.pointer (some ⟨D, 0, none⟩)) ?_ ⟨.pointer (some ⟨D, 0, none⟩), rfl, hkeep 3 _ (Or.inl (by rw [HPV.out]; rfl)) hL, ?_⟩
        · clear hP hS hat haft hkeep hL hcx
          generalize b.eval = ρ at *
          go_simp
        simp only [getD_set_ne false (show 3 ≠ 14 by decide), getD_set_ne false (show 3 ≠ 15 by decide), getD_set_ne false (show 3 ≠ 17 by decide), Dag.turn_other vals (i := 3) (j := 14) _ (by decide), Dag.turn_other vals (i := 3) (j := 15) _ (by decide)]
        exact hS
      | 4, _ =>
        injection ho with ho
        subst ho
        refine Dag.yields (w' := wx) (.pointer (some ⟨Lb, 0, none⟩)) ?_ ⟨.pointer (some ⟨Lb, 0, none⟩), rfl, hkeep 4 _ (Or.inl (by rw [HPV.out]; rfl)) hL, ?_⟩
        · clear hP hS hat haft hkeep hL
          generalize b.eval = ρ at *
          go_simp
        · simp only [getD_set_ne false (show 4 ≠ 14 by decide), getD_set_ne false (show 4 ≠ 15 by decide), getD_set_ne false (show 4 ≠ 17 by decide), Dag.turn_other vals (i := 4) (j := 14) _ (by decide), Dag.turn_other vals (i := 4) (j := 15) _ (by decide)]
          exact hS
      | 5, _ =>
        injection ho with ho
        subst ho
        have e33 : b.eval (.tmp 33) = .pointer (some ⟨Lb, 0, none⟩) := (hat.new 4 _ 33 (haft ⟨4, .data⟩ (by simp) rfl) rfl rfl).trans (hP 4 _ (by rw [HPV.out]; rfl) (haft ⟨4, .data⟩ (by simp) rfl))
        refine Dag.yields (w' := wx) (.pointer (some ⟨Lb, 0, none⟩)) ?_ ⟨.pointer (some ⟨Lb, 0, none⟩), rfl, hkeep 5 _ (Or.inl (by rw [HPV.out]; rfl)) hL, ?_⟩
        · clear hP hS hat haft hkeep hL
          generalize b.eval = ρ at *
          go_simp
        · simp only [getD_set_ne false (show 5 ≠ 14 by decide), getD_set_ne false (show 5 ≠ 15 by decide), getD_set_ne false (show 5 ≠ 17 by decide), Dag.turn_other vals (i := 5) (j := 14) _ (by decide), Dag.turn_other vals (i := 5) (j := 15) _ (by decide)]
          exact hS
      | 6, _ =>
        injection ho with ho
        subst ho
        have e34 : b.eval (.tmp 34) = .pointer (some ⟨Lb, 0, none⟩) := (hat.new 5 _ 34 (haft ⟨5, .data⟩ (by simp) rfl) rfl rfl).trans (hP 5 _ (by rw [HPV.out]; rfl) (haft ⟨5, .data⟩ (by simp) rfl))
        refine Dag.yields (w' := wx) (.pointer (some ⟨Lb, 1, none⟩)) ?_ ⟨.pointer (some ⟨Lb, 1, none⟩), rfl, hkeep 6 _ (Or.inl (by rw [HPV.out]; rfl)) hL, ?_⟩
        · clear hP hS hat haft hkeep hL
          generalize b.eval = ρ at *
          go_simp
        · simp only [getD_set_ne false (show 6 ≠ 14 by decide), getD_set_ne false (show 6 ≠ 15 by decide), getD_set_ne false (show 6 ≠ 17 by decide), Dag.turn_other vals (i := 6) (j := 14) _ (by decide), Dag.turn_other vals (i := 6) (j := 15) _ (by decide)]
          exact hS
      | 7, _ =>
        injection ho with ho
        subst ho
        have e35 : b.eval (.tmp 35) = .pointer (some ⟨Lb, 1, none⟩) := (hat.new 6 _ 35 (haft ⟨6, .data⟩ (by simp) rfl) rfl rfl).trans (hP 6 _ (by rw [HPV.out]; rfl) (haft ⟨6, .data⟩ (by simp) rfl))
        have h8 : Lf.getD 8 false = false := by
          cases h : Lf.getD 8 false with
          | false => rfl
          | true => have := hat.closed 8 _ h rfl ⟨7, .data⟩ (by simp) rfl; rw [Dag.off hL] at this; cases this
        have h17 : Lf.getD 17 false = false := by
          cases h : Lf.getD 17 false with
          | false => rfl
          | true => have := hat.closed 17 _ h rfl ⟨8, .data⟩ (by simp) rfl; rw [h8] at this; cases this
        have x0 := hcx h17
        obtain ⟨x0, x1, x3⟩ := x0
        refine Dag.yields (w' := wx) (.int .i64 (l.frm : Int)) ?_ ⟨.int .i64 (l.frm : Int), rfl, hkeep 7 _ (Or.inl (by rw [HPV.out]; rfl)) hL, ?_⟩
        · clear hP hS hat haft hkeep hL hcx
          generalize b.eval = ρ at *
          go_simp
        simp only [getD_set_ne false (show 7 ≠ 14 by decide), getD_set_ne false (show 7 ≠ 15 by decide), getD_set_ne false (show 7 ≠ 17 by decide), Dag.turn_other vals (i := 7) (j := 14) _ (by decide), Dag.turn_other vals (i := 7) (j := 15) _ (by decide)]
        exact hS
      | 8, _ =>
        injection ho with ho
        subst ho
        have e36 : b.eval (.tmp 36) = .int .i64 (l.frm : Int) := (hat.new 7 _ 36 (haft ⟨7, .data⟩ (by simp) rfl) rfl rfl).trans (hP 7 _ (by rw [HPV.out]; rfl) (haft ⟨7, .data⟩ (by simp) rfl))
        refine Dag.yields (w' := wx) (.int .i64 ((l.frm : Int) + 1)) ?_ ⟨.int .i64 ((l.frm : Int) + 1), rfl, hkeep 8 _ (Or.inl (by rw [HPV.out]; rfl)) hL, ?_⟩
        · clear hP hS hat haft hkeep hL
          generalize b.eval = ρ at *
          go_simp
        · simp only [getD_set_ne false (show 8 ≠ 14 by decide), getD_set_ne false (show 8 ≠ 15 by decide), getD_set_ne false (show 8 ≠ 17 by decide), Dag.turn_other vals (i := 8) (j := 14) _ (by decide), Dag.turn_other vals (i := 8) (j := 15) _ (by decide)]
          exact hS
      | 9, _ =>
        injection ho with ho
        subst ho
        refine Dag.yields (w' := wx) (.pointer (some ⟨Lb, 0, none⟩)) ?_ ⟨.pointer (some ⟨Lb, 0, none⟩), rfl, hkeep 9 _ (Or.inl (by rw [HPV.out]; rfl)) hL, ?_⟩
        · clear hP hS hat haft hkeep hL
          generalize b.eval = ρ at *
          go_simp
        · simp only [getD_set_ne false (show 9 ≠ 14 by decide), getD_set_ne false (show 9 ≠ 15 by decide), getD_set_ne false (show 9 ≠ 17 by decide), Dag.turn_other vals (i := 9) (j := 14) _ (by decide), Dag.turn_other vals (i := 9) (j := 15) _ (by decide)]
          exact hS
      | 10, _ =>
        injection ho with ho
        subst ho
        have e38 : b.eval (.tmp 38) = .pointer (some ⟨Lb, 0, none⟩) := (hat.new 9 _ 38 (haft ⟨9, .data⟩ (by simp) rfl) rfl rfl).trans (hP 9 _ (by rw [HPV.out]; rfl) (haft ⟨9, .data⟩ (by simp) rfl))
        refine Dag.yields (w' := wx) (.pointer (some ⟨Lb, 0, none⟩)) ?_ ⟨.pointer (some ⟨Lb, 0, none⟩), rfl, hkeep 10 _ (Or.inl (by rw [HPV.out]; rfl)) hL, ?_⟩
        · clear hP hS hat haft hkeep hL
          generalize b.eval = ρ at *
          go_simp
        · simp only [getD_set_ne false (show 10 ≠ 14 by decide), getD_set_ne false (show 10 ≠ 15 by decide), getD_set_ne false (show 10 ≠ 17 by decide), Dag.turn_other vals (i := 10) (j := 14) _ (by decide), Dag.turn_other vals (i := 10) (j := 15) _ (by decide)]
          exact hS
      | 11, _ =>
        injection ho with ho
        subst ho
        have e39 : b.eval (.tmp 39) = .pointer (some ⟨Lb, 0, none⟩) := (hat.new 10 _ 39 (haft ⟨10, .data⟩ (by simp) rfl) rfl rfl).trans (hP 10 _ (by rw [HPV.out]; rfl) (haft ⟨10, .data⟩ (by simp) rfl))
        refine Dag.yields (w' := wx) (.pointer (some ⟨Lb, 3, none⟩)) ?_ ⟨.pointer (some ⟨Lb, 3, none⟩), rfl, hkeep 11 _ (Or.inl (by rw [HPV.out]; rfl)) hL, ?_⟩
        · clear hP hS hat haft hkeep hL
          generalize b.eval = ρ at *
          go_simp
        · simp only [getD_set_ne false (show 11 ≠ 14 by decide), getD_set_ne false (show 11 ≠ 15 by decide), getD_set_ne false (show 11 ≠ 17 by decide), Dag.turn_other vals (i := 11) (j := 14) _ (by decide), Dag.turn_other vals (i := 11) (j := 15) _ (by decide)]
          exact hS
      | 12, _ =>
        injection ho with ho
        subst ho
        have e40 : b.eval (.tmp 40) = .pointer (some ⟨Lb, 3, none⟩) := (hat.new 11 _ 40 (haft ⟨11, .data⟩ (by simp) rfl) rfl rfl).trans (hP 11 _ (by rw [HPV.out]; rfl) (haft ⟨11, .data⟩ (by simp) rfl))
        have h14 : Lf.getD 14 false = false := by
          cases h : Lf.getD 14 false with
          | false => rfl
          | true => have := hat.closed 14 _ h rfl ⟨12, .data⟩ (by simp) rfl; rw [Dag.off hL] at this; cases this
        have h15 : Lf.getD 15 false = false := by
          cases h : Lf.getD 15 false with
          | false => rfl
          | true => have := hat.closed 15 _ h rfl ⟨14, .data⟩ (by simp) rfl; rw [h14] at this; cases this
        have h16 : Lf.getD 16 false = false := by
          cases h : Lf.getD 16 false with
          | false => rfl
          | true => have := hat.closed 16 _ h rfl ⟨15, .data⟩ (by simp) rfl; rw [h15] at this; cases this
        have h17 : Lf.getD 17 false = false := by
          cases h : Lf.getD 17 false with
          | false => rfl
          | true => have := hat.closed 17 _ h rfl ⟨16, .data⟩ (by simp) rfl; rw [h16] at this; cases this
        have x0 := hcx h17
        obtain ⟨x0, x1, x3⟩ := x0
        refine Dag.yields (w' := wx) (.int .i64 (l.ep + 1)) ?_ ⟨.int .i64 (l.ep + 1), rfl, hkeep 12 _ (Or.inl (by rw [HPV.out]; rfl)) hL, ?_⟩
        · clear hP hS hat haft hkeep hL hcx
          generalize b.eval = ρ at *
          go_simp
        simp only [getD_set_ne false (show 12 ≠ 14 by decide), getD_set_ne false (show 12 ≠ 15 by decide), getD_set_ne false (show 12 ≠ 17 by decide), Dag.turn_other vals (i := 12) (j := 14) _ (by decide), Dag.turn_other vals (i := 12) (j := 15) _ (by decide)]
        exact hS
      | 13, _ =>
        injection ho with ho
        subst ho
        refine Dag.yields (w' := wx) (.string T) ?_ ⟨.string T, rfl, hkeep 13 _ (Or.inl (by rw [HPV.out]; rfl)) hL, ?_⟩
        · clear hP hS hat haft hkeep hL
          generalize b.eval = ρ at *
          go_simp
        · simp only [getD_set_ne false (show 13 ≠ 14 by decide), getD_set_ne false (show 13 ≠ 15 by decide), getD_set_ne false (show 13 ≠ 17 by decide), Dag.turn_other vals (i := 13) (j := 14) _ (by decide), Dag.turn_other vals (i := 13) (j := 15) _ (by decide)]
          exact hS
      | 14, _ =>
        injection ho with ho
        subst ho
        have e41 : b.eval (.tmp 41) = .int .i64 (l.ep + 1) := (hat.new 12 _ 41 (haft ⟨12, .data⟩ (by simp) rfl) rfl rfl).trans (hP 12 _ (by rw [HPV.out]; rfl) (haft ⟨12, .data⟩ (by simp) rfl))
        have e42 : b.eval (.tmp 42) = .string T := (hat.new 13 _ 42 (haft ⟨13, .data⟩ (by simp) rfl) rfl rfl).trans (hP 13 _ (by rw [HPV.out]; rfl) (haft ⟨13, .data⟩ (by simp) rfl))
        have h15 : Lf.getD 15 false = false := by
          cases h : Lf.getD 15 false with
          | false => rfl
          | true => have := hat.closed 15 _ h rfl ⟨14, .data⟩ (by simp) rfl; rw [Dag.off hL] at this; cases this
        have h16 : Lf.getD 16 false = false := by
          cases h : Lf.getD 16 false with
          | false => rfl
          | true => have := hat.closed 16 _ h rfl ⟨15, .data⟩ (by simp) rfl; rw [h15] at this; cases this
        have h17 : Lf.getD 17 false = false := by
          cases h : Lf.getD 17 false with
          | false => rfl
          | true => have := hat.closed 17 _ h rfl ⟨16, .data⟩ (by simp) rfl; rw [h16] at this; cases this
        rw [h15, h17] at hS
        refine Dag.calls (w' := wx) (f := 16) (args := #[.int .i64 (l.ep + 1), .int .i64 0, .string T]) ?_ (fun u w'' => ∃ g gc, u = .slice (some ⟨g, 0, none⟩) 1 gc ∧ w''.cell? ⟨g, 0, none⟩ = some (.string P) ∧ Below wx.heap.size wx w'') ?_ ?_
        · have ef : b.eval (.func 16) = .func (.func 16) #[] #[] := rfl
          clear hP hS hat haft hkeep hL hcx
          generalize b.eval = ρ at *
          go_simp
        · refine (HSec.out wx).mono ?_
          rintro x w'' ⟨v3, rfl, hown3, hb3⟩
          obtain ⟨g, gc, rfl, _, _, _⟩ := ownsRow_shape hown3 (by rintro rfl; rcases hown3.2 with ⟨_, h3⟩ | ⟨_, _, _, h3, _⟩ <;> first | omega | cases h3)
          exact ⟨_, rfl, g, gc, rfl, (hown3.cellAt 0 (by omega)).trans HFs.out.2.2, hb3⟩
        · rintro u w'' ⟨g, gc, rfl, hc, hb⟩
          refine ⟨_, rfl, hkeep 14 _ (Or.inr (by rw [HPV.out]; rfl)) hL, ?_⟩
          rw [Dag.on hL]
          simp only [getD_set_ne false (show 14 ≠ 15 by decide), getD_set_ne false (show 14 ≠ 17 by decide), Dag.turn_same, Dag.turn_other vals (i := 14) (j := 15) _ (by decide)]
          rw [h15, h17]
          exact hS.sec14 hb hc
      | 15, _ =>
        injection ho with ho
        subst ho
        have e43 : b.eval (.tmp 43) = vals 14 := hat.new 14 _ 43 (haft ⟨14, .data⟩ (by simp) rfl) rfl rfl
        have l14 : Lf.getD 14 false = true := haft ⟨14, .data⟩ (by simp) rfl
        have h16 : Lf.getD 16 false = false := by
          cases h : Lf.getD 16 false with
          | false => rfl
          | true => have := hat.closed 16 _ h rfl ⟨15, .data⟩ (by simp) rfl; rw [Dag.off hL] at this; cases this
        have h17 : Lf.getD 17 false = false := by
          cases h : Lf.getD 17 false with
          | false => rfl
          | true => have := hat.closed 17 _ h rfl ⟨16, .data⟩ (by simp) rfl; rw [h16] at this; cases this
        rw [l14, h17] at hS
        obtain ⟨g, gc, hv, hc⟩ := hS.sec rfl rfl
        refine Dag.yields (w' := wx) (.pointer (some ⟨g, 0, none⟩)) ?_ ⟨_, rfl, hkeep 15 _ (Or.inr (by rw [HPV.out]; rfl)) hL, ?_⟩
        · clear hP hS hat haft hkeep hL hcx hc
          rw [hv] at e43
          generalize b.eval = ρ at *
          go_simp
        rw [Dag.on hL]
        simp only [getD_set_ne false (show 15 ≠ 14 by decide), getD_set_ne false (show 15 ≠ 17 by decide), Dag.turn_same, Dag.turn_other vals (i := 15) (j := 14) _ (by decide)]
        rw [l14, h17]
        exact hS.idx15 hc
      | 16, _ =>
        injection ho with ho
        subst ho
        have e44 : b.eval (.tmp 44) = vals 15 := hat.new 15 _ 44 (haft ⟨15, .data⟩ (by simp) rfl) rfl rfl
        have l15 : Lf.getD 15 false = true := haft ⟨15, .data⟩ (by simp) rfl
        have h17 : Lf.getD 17 false = false := by
          cases h : Lf.getD 17 false with
          | false => rfl
          | true => have := hat.closed 17 _ h rfl ⟨16, .data⟩ (by simp) rfl; rw [Dag.off hL] at this; cases this
        rw [l15, h17] at hS
        obtain ⟨g, hv, hc⟩ := hS.idx rfl rfl
        rw [hv] at e44
        refine Dag.yields (w' := wx) (.string P) ?_ ⟨.string P, rfl, hkeep 16 _ (Or.inl (by rw [HPV.out]; rfl)) hL, ?_⟩
        · clear hP hS hat haft hkeep hL hcx
          generalize b.eval = ρ at *
          go_simp
        simp only [getD_set_ne false (show 16 ≠ 14 by decide), getD_set_ne false (show 16 ≠ 15 by decide), getD_set_ne false (show 16 ≠ 17 by decide), Dag.turn_other vals (i := 16) (j := 14) _ (by decide), Dag.turn_other vals (i := 16) (j := 15) _ (by decide)]
        rw [l15, h17]
        exact hS
      | 17, _ =>
        injection ho with ho
        subst ho
        have e32 : b.eval (.tmp 32) = .pointer (some ⟨D, 0, none⟩) := (hat.new 3 _ 32 (haft ⟨3, .data⟩ (by simp) rfl) rfl rfl).trans (hP 3 _ (by rw [HPV.out]; rfl) (haft ⟨3, .data⟩ (by simp) rfl))
        have e37 : b.eval (.tmp 37) = .int .i64 ((l.frm : Int) + 1) := (hat.new 8 _ 37 (haft ⟨8, .data⟩ (by simp) rfl) rfl rfl).trans (hP 8 _ (by rw [HPV.out]; rfl) (haft ⟨8, .data⟩ (by simp) rfl))
        have e45 : b.eval (.tmp 45) = .string P := (hat.new 16 _ 45 (haft ⟨16, .data⟩ (by simp) rfl) rfl rfl).trans (hP 16 _ (by rw [HPV.out]; rfl) (haft ⟨16, .data⟩ (by simp) rfl))
        rw [Dag.off hL] at hS
        refine Dag.calls (w' := wx) (f := 17) (args := #[.pointer (some ⟨D, 0, none⟩), .int .i64 ((l.frm : Int) + 1), .string P]) ?_ (fun u w'' => u = .int .i64 e2 ∧ ∃ vl4, WalM.LogMv w2 base D vs ve vl2 Lb D2 l1 vl4 w'') ?_ ?_
        · have ef : b.eval (.func 17) = .func (.func 17) #[] #[] := rfl
          clear hP hS hat haft hkeep hL hcx
          generalize b.eval = ρ at *
          go_simp
        · refine (HWr.out _ _ (hS.pre rfl)).mono ?_
          rintro x w'' ⟨rfl, hm⟩
          exact ⟨_, rfl, rfl, hm⟩
        · rintro u w'' ⟨rfl, hm⟩
          refine ⟨_, rfl, hkeep 17 _ (Or.inl (by rw [HPV.out]; rfl)) hL, ?_⟩
          rw [Dag.on hL]
          simp only [getD_set_ne false (show 17 ≠ 14 by decide), getD_set_ne false (show 17 ≠ 15 by decide), Dag.turn_other vals (i := 17) (j := 14) _ (by decide), Dag.turn_other vals (i := 17) (j := 15) _ (by decide)]
          exact WalM.ResS.done hm
      | 18, _ =>
        injection ho with ho
        subst ho
        have e46 : b.eval (.tmp 46) = .int .i64 e2 := (hat.new 17 _ 46 (haft ⟨17, .data⟩ (by simp) rfl) rfl rfl).trans (hP 17 _ (by rw [HPV.out]; rfl) (haft ⟨17, .data⟩ (by simp) rfl))
        refine Dag.yields (w' := wx) (.int .i64 e2) ?_ ⟨.int .i64 e2, rfl, hkeep 18 _ (Or.inl (by rw [HPV.out]; rfl)) hL, ?_⟩
        · clear hP hS hat haft hkeep hL
          generalize b.eval = ρ at *
          go_simp
        · simp only [getD_set_ne false (show 18 ≠ 14 by decide), getD_set_ne false (show 18 ≠ 15 by decide), getD_set_ne false (show 18 ≠ 17 by decide), Dag.turn_other vals (i := 18) (j := 14) _ (by decide), Dag.turn_other vals (i := 18) (j := 15) _ (by decide)]
          exact hS
      | i + 19, h => exact absurd h (by simp)
    · intro Lf vals wx hall hR
      obtain ⟨hP, hS⟩ := hR
      simp only [hall 14 (by simp), hall 15 (by simp), hall 17 (by simp)] at hS
      have HS4 := box (hS.post rfl)
      have u0 := hP 0 _ (by rw [HPV.out]; rfl) (hall 0 (by simp))
      have u1 := hP 1 _ (by rw [HPV.out]; rfl) (hall 1 (by simp))
      have u2 := hP 2 _ (by rw [HPV.out]; rfl) (hall 2 (by simp))
      have u3 := hP 3 _ (by rw [HPV.out]; rfl) (hall 3 (by simp))
      have u4 := hP 4 _ (by rw [HPV.out]; rfl) (hall 4 (by simp))
      have u5 := hP 5 _ (by rw [HPV.out]; rfl) (hall 5 (by simp))
      have u6 := hP 6 _ (by rw [HPV.out]; rfl) (hall 6 (by simp))
      have u7 := hP 7 _ (by rw [HPV.out]; rfl) (hall 7 (by simp))
      have u8 := hP 8 _ (by rw [HPV.out]; rfl) (hall 8 (by simp))
      have u9 := hP 9 _ (by rw [HPV.out]; rfl) (hall 9 (by simp))
      have u10 := hP 10 _ (by rw [HPV.out]; rfl) (hall 10 (by simp))
      have u11 := hP 11 _ (by rw [HPV.out]; rfl) (hall 11 (by simp))
      have u12 := hP 12 _ (by rw [HPV.out]; rfl) (hall 12 (by simp))
      have u13 := hP 13 _ (by rw [HPV.out]; rfl) (hall 13 (by simp))
      have u16 := hP 16 _ (by rw [HPV.out]; rfl) (hall 16 (by simp))
      have u17 := hP 17 _ (by rw [HPV.out]; rfl) (hall 17 (by simp))
      have u18 := hP 18 _ (by rw [HPV.out]; rfl) (hall 18 (by simp))
      simp only [Dag.all, List.size_toArray, List.length_cons, List.length_nil, Nat.reduceAdd, List.getElem?_toArray, List.getElem?_cons_zero, List.getElem?_cons_succ, Option.bind_some]
      rw [u0, u1, u2, u3, u4, u5, u6, u7, u8, u9, u10, u11, u12, u13, u16, u17, u18]
      clear hP hS hall
      generalize vals 14 = x14
      generalize vals 15 = x15
      clear u0 u1 u2 u3 u4 u5 u6 u7 u8 u9 u10 u11 u12 u13 u16 u17 u18
      refine hMK _ _ (Met.intro (hRJ _ _ ?_))
      go_simp
  case rest =>
  obtain ⟨rfl, HM4'⟩ := hcut
  obtain ⟨vl4, hm4⟩ := HM4'.out
  have HM4 := box hm4
  have k4 := HHV.out _ _ _ hm4
  rw [HFrm.out, HEp.out] at k4
  clear hm4 HM4'
  obtain ⟨w4, hw4⟩ : ∃ x, x = wc := ⟨_, rfl⟩
  rw [← hw4] at k4 HM4 ⊢
  clear hw4
  clear c0 c1 c3 hLl HWr HSec HMx
  obtain ⟨c0, c1, c2, c3, c4, c5, c6, hLl⟩ := k4
  by_cases h1 : e2 = 0
  case neg =>
    have Hr := box (HR7.out.trans (if_pos h1))
    have hd : (e2 != 0) = true := by simpa using h1
    have hd2 : (e2 == 0) = false := by simpa using h1
    have HFx := box (HFaV.out D2 vl4 w4 e2 HM4.out)
    clear h1 HR7
    go_step
    go_wp2_with fail
    refine HFx.out.mono ?_
    rintro x w5 ⟨rfl, hm5⟩
    have HFin := box (HTr2.out _ _ _ hm5)
    clear hm5 HFx
    go_wp2_with fail
    go_ret
    exact ⟨by rw [Hr.out]; rfl, by rw [Hr.out]; exact HFin.out⟩
  subst h1
  have HR8 := box (HR7.out.trans (if_neg (by simp)))
  have HFl := box (logFlush HK2.out HM4.out HGd.out)
  obtain ⟨e3, He3⟩ : ∃ x, Box (SectM.flushed D2 = x) := ⟨_, ⟨rfl⟩⟩
  obtain ⟨D3, HD3⟩ : ∃ x, Box (SectM.flush D2 = x) := ⟨_, ⟨rfl⟩⟩
  rw [He3.out, HD3.out] at HFl HR8
  clear HR7 c1 c2 c3 c4 c5 c6
  go_step
  go_wp2_with fail
  refine HFl.out.mono ?_
  rintro x w5 ⟨rfl, vl5, hm5⟩
  have HM5 := box hm5
  clear hm5 HFl c0 hLl
  obtain ⟨c0, c1, c2, c3, c4, c5, c6, hLl⟩ := HHV.out D3 vl5 w5 HM5.out
  by_cases h2 : e3 = 0
  case neg =>
    have Hr := box (HR8.out.trans (if_pos h2))
    have hd : (e3 != 0) = true := by simpa using h2
    have hd2 : (e3 == 0) = false := by simpa using h2
    have HFx := box (HFaV.out D3 vl5 w5 e3 HM5.out)
    clear h2 HR8
    go_wp2_with fail
    refine HFx.out.mono ?_
    rintro x w6 ⟨rfl, hm6⟩
    have HFin := box (HTr2.out _ _ _ hm6)
    clear hm6 HFx
    go_wp2_with fail
    go_ret
    exact ⟨by rw [Hr.out]; rfl, by rw [Hr.out]; exact HFin.out⟩
  subst h2
  have Hr := box (HR8.out.trans (if_neg (by simp)))
  have HS1 : Box (LogMv w2 base D vs ve vl2 Lb D3 { l1 with at_ := 2 } vl5 (w5.setCell ⟨Lb, 4, none⟩ (.int .i64 2))) := ⟨HM5.out.set HK2.out.log.lt HK2.out.ap 4 _ rfl⟩
  have HS2 : Box (LogMv w2 base D vs ve vl2 Lb D3 { l1 with at_ := 2, seq := 1 } vl5 ((w5.setCell ⟨Lb, 4, none⟩ (.int .i64 2)).setCell ⟨Lb, 5, none⟩ (.int .i64 1))) := ⟨HS1.out.set HK2.out.log.lt HK2.out.ap 5 _ rfl⟩
  have HFin := box (HTr2.out _ _ _ ⟨vl5, HS2.out⟩)
  have f4 := HM5.out.log.frozen 4
  have g5 := HS1.out.log.cell (i := 5) rfl
  have f5 := HS1.out.log.frozen 5
  have gl := HS1.out.log.lt
  clear HR8 HS1 HS2
  go_wp2_with fail
  go_ret
  exact ⟨by rw [Hr.out]; rfl, by rw [Hr.out]; exact HFin.out⟩
end Go.Proofs.YtpeaefeoogcepaaDoor
