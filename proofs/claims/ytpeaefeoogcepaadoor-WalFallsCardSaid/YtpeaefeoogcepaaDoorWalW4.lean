/- wal.read: walked. -/
import Derived.Test.YtpeaefeoogcepaaDoorWalW3
import Derived.IntWalk
namespace Go.Proofs.YtpeaefeoogcepaaDoor
open Go.RowKit Go.Lib
open WalM

namespace WalM
/-- A log's own cells. -/
structure LogM where
  frm : Nat
  size : Nat
  ep : Int
  at_ : Nat
  seq : Nat
  fell : Bool
def logCells (D : Nat) (l : LogM) : List Value := [.pointer (some ⟨D, 0, none⟩), .int .i64 (l.frm : Int), .int .i64 (l.size : Int), .int .i64 l.ep, .int .i64 (l.at_ : Int), .int .i64 (l.seq : Int), .bool l.fell]
/-- What is seen of a log's region. -/
def view (d : DiskM) (frm size x : Nat) : List UInt8 := if 1 ≤ x ∧ x < size then (d.seen.getD (frm + x) SectM.blank).data.toList else List.replicate 64 0
theorem view_len {d : DiskM} {n frm size : Nat} (hg : SectM.Good n d) (h : frm + size ≤ n) (x : Nat) : (view d frm size x).length = 64 := by
  unfold view
  split
  · rename_i hx
    have hs := hg.seen
    have hl : frm + x < d.seen.length := by omega
    rw [List.getD_eq_getElem?_getD, List.getElem?_eq_getElem hl]
    exact hg.sz.2.1 _ (List.getElem_mem hl)
  · simp
theorem view_at {d : DiskM} {frm size x : Nat} (h1 : 1 ≤ x) (h2 : x < size) : BA (view d frm size x) = d.seen.getD (frm + x) SectM.blank := by
  unfold view
  rw [if_pos ⟨h1, h2⟩, BA_of]
/-- What read answers. -/
def ReadP (rd : Nat → List UInt8) (size p q : Nat) (w : World) (e : Ending) (w' : World) : Prop :=
  Below w.heap.size w w' ∧ ((readRec rd size p q = none ∧ e = .returned (.tuple #[.agg #[.int .i64 0, .string ⟨#[]⟩, .int .i64 0], .bool false])) ∨
    (∃ x t k, readRec rd size p q = some (x, t, k) ∧ e = .returned (.tuple #[.agg #[.int .i64 x, .string (BA t), .int .i64 (k : Int)], .bool true])))
theorem headed_len {s r : List UInt8} {q e : Int} (h : headed s q = some (e, r)) : r.length ≤ s.length := by
  unfold headed at h
  split at h
  · cases h
  · split at h
    · cases h
    · split at h
      · cases h
      · split at h
        · have e1 := (Prod.mk.inj (Option.some.inj h)).2
          rw [← e1, List.length_drop, List.length_drop, List.length_cons]
          omega
        · cases h
theorem read_none1 {rd : Nat → List UInt8} {size p : Nat} {q : Int} (h : headed (rd p) q = none) : readRec rd size p q = none := by
  unfold readRec
  split
  · rfl
  · rw [h]
theorem read_none2 {rd : Nat → List UInt8} {size p : Nat} {q x : Int} {all : List UInt8} (h : headed (rd p) q = some (x, all)) (h2 : (CodeM.getNat all).2.2 ≠ 0 ∨ 300 < (CodeM.getNat all).1) : readRec rd size p q = none := by
  unfold readRec
  split
  · rfl
  · rw [h]
    dsimp only
    rw [if_pos h2]
/-- What is made of the bytes that were gathered. -/
def tailOf (p : Nat) (x : Int) (a u : Nat) : Option (List UInt8 × Nat) → Option (Int × List UInt8 × Nat)
  | none => none
  | some (l, p') => if fold (l.take (a + u)) = l.take (a + u + 4) then some (x, (l.take (a + u)).drop a, p' - p) else none
theorem read_is {rd : Nat → List UInt8} {size p : Nat} {q x : Int} {all : List UInt8} {u a : Nat} (hp : p < size) (h : headed (rd p) q = some (x, all)) (h2 : CodeM.getNat all = (u, a, 0)) (h3 : u ≤ 300) {g : Option (List UInt8 × Nat)} (hg : gather rd size (head 2 x q) (a + u + 4) (size - p) (p + 1) all = g) :
    readRec rd size p q = tailOf p x a u g := by
  unfold readRec
  rw [if_neg (by omega)]
  simp only [h, h2]
  rw [if_neg (by omega)]
  simp only [hg]
  cases g <;> rfl
theorem at_drewN {w : World} {base D : Nat} {vs ve vl : Value} {d : DiskM} (h : SectM.At w base D vs ve vl d) (k : Nat) : SectM.At (w.drewN k) base D vs ve vl d :=
  h.below ⟨rfl, rfl, rfl, Nat.le_refl _, fun _ _ => rfl⟩
end WalM
set_option maxRecDepth 20000 in
set_option maxHeartbeats 8000000 in
theorem walRead_any (w : World) (base D : Nat) (vs ve vl : Value) (d : DiskM) (n : Nat) (h : SectM.At w base D vs ve vl d) (hg : SectM.Good n d) (h1 : 1 ≤ n) (h2 : n ≤ 256) (hl : d.left ≠ 0) (Lb : Nat) (l : LogM)
    (hL : Blk w Lb 45 (logCells D l)) (hfit : l.frm + l.size ≤ n) (p q : Nat) (hp : 1 ≤ p) (hp2 : p ≤ 300) (hq : q ≤ 300) :
    Calls Tryd.prog 22 #[.pointer (some ⟨Lb, 0, none⟩), .int .i64 (p : Int), .int .i64 (q : Int)] w (ReadP (view d l.frm l.size) l.size p q w) := by
  have HRd : Box (∀ (k : Nat) (wx : World), Below w.heap.size w wx → l.frm + k < n → Calls Tryd.prog 20 #[.pointer (some ⟨D, 0, none⟩), .int .i64 ((l.frm : Int) + (k : Int))] wx fun e w' => e = .returned (.tuple #[.string (d.seen.getD (l.frm + k) SectM.blank), .int .i64 0]) ∧ wx = w') := ⟨fun k wx hx hk => by
    have e0 : SectM.readE d ((l.frm : Int) + (k : Int)) = 0 := by
      unfold SectM.readE
      rw [if_neg (by have := hg.safe; omega), if_neg hl]
    have := sectRead_any wx base D vs ve vl d (h.below hx) (by rw [hg.seen, hg.safe]) (by rw [hg.safe]; exact h1) (by rw [hg.safe]; exact h2) ((l.frm : Int) + (k : Int))
    rw [e0] at this
    unfold SectM.readV at this
    rw [if_pos e0, show ((l.frm : Int) + (k : Int)).toNat = l.frm + k by omega] at this
    exact this⟩
  have hV := box (fun x => view_len (frm := l.frm) (size := l.size) hg hfit x)
  have HVw : Box (∀ k, 1 ≤ k → k < l.size → d.seen.getD (l.frm + k) SectM.blank = BA (view d l.frm l.size k)) := ⟨fun k a b => (view_at a b).symm⟩
  have HL := box hL
  obtain ⟨frm, size, ep, at_, seq, fell⟩ := l
  dsimp only at HRd HVw hV hfit ⊢
  clear h hg hl hL
  generalize view d frm size = rd at *
  generalize d.seen = sn at *
  clear d
  have c0 := HL.out.cell (i := 0) rfl
  have c1 := HL.out.cell (i := 1) rfl
  have c2 := HL.out.cell (i := 2) rfl
  have hLl := HL.out.lt
  dsimp only [logCells] at c0 c1 c2
  obtain ⟨PP, HPP⟩ : ∃ P, Box (ReadP rd size p q w = P) := ⟨_, ⟨rfl⟩⟩
  have HNo : Box (∀ w', Below w.heap.size w w' → readRec rd size p q = none → PP (.returned (.tuple #[.agg #[.int .i64 0, .string ⟨#[]⟩, .int .i64 0], .bool false])) w') := ⟨fun w' a b => by rw [← HPP.out]; exact ⟨a, Or.inl ⟨b, rfl⟩⟩⟩
  have HYes : Box (∀ w' x t (k : Nat), Below w.heap.size w w' → readRec rd size p q = some (x, t, k) → PP (.returned (.tuple #[.agg #[.int .i64 x, .string (BA t), .int .i64 (k : Int)], .bool true])) w') := ⟨fun w' x t k a b => by rw [← HPP.out]; exact ⟨a, Or.inr ⟨x, t, k, b, rfl⟩⟩⟩
  rw [HPP.out]
  obtain ⟨W0, HW0⟩ : ∃ x, Box (w.alloc (.cells #[.int .i64 0, .string ⟨#[]⟩, .int .i64 0] 54) = x) := ⟨_, ⟨rfl⟩⟩
  obtain ⟨R, HRe⟩ : ∃ x, Box (w.heap.size = x) := ⟨_, ⟨rfl⟩⟩
  have HB0 : Box (∀ wx, Below W0.heap.size W0 wx → Below w.heap.size w wx) := ⟨fun wx h => by
    have h3 : Below w.heap.size w W0 := by rw [← HW0.out]; exact (Below.refl _ _).alloc (Nat.le_refl _) _
    exact h3.trans (h.mono h3.size)⟩
  have HC : Box (∀ wx, Below W0.heap.size W0 wx → (wx.cell? ⟨Lb, 0, none⟩ = some (.pointer (some ⟨D, 0, none⟩)) ∧ wx.cell? ⟨Lb, 1, none⟩ = some (.int .i64 (frm : Int)) ∧ wx.cell? ⟨Lb, 2, none⟩ = some (.int .i64 (size : Int)) ∧ Lb < wx.heap.size) ∧
      (wx.cell? ⟨R, 0, none⟩ = some (.int .i64 0) ∧ wx.cell? ⟨R, 1, none⟩ = some (.string ⟨#[]⟩) ∧ wx.cell? ⟨R, 2, none⟩ = some (.int .i64 0) ∧ wx.frozen? ⟨R, 0, none⟩ = false ∧ wx.frozen? ⟨R, 1, none⟩ = false ∧ wx.frozen? ⟨R, 2, none⟩ = false ∧ R < wx.heap.size)) := ⟨fun wx h => by
    have a := HL.out.after (HB0.out wx h)
    have b : Blk wx R 54 [.int .i64 0, .string ⟨#[]⟩, .int .i64 0] := by
      refine Blk.after ?_ h
      rw [← HW0.out, ← HRe.out]
      exact Blk.new _ _ _
    exact ⟨⟨a.cell rfl, a.cell rfl, a.cell rfl, a.lt⟩, ⟨b.cell rfl, b.cell rfl, b.cell rfl, b.frozen 0, b.frozen 1, b.frozen 2, b.lt⟩⟩⟩
  have HNo2 : Box (∀ wx, Below W0.heap.size W0 wx → readRec rd size p q = none → PP (.returned (.tuple #[.agg #[.int .i64 0, .string ⟨#[]⟩, .int .i64 0], .bool false])) (((wx.setCell ⟨R, 0, none⟩ (.int .i64 0)).setCell ⟨R, 1, none⟩ (.string ⟨#[]⟩)).setCell ⟨R, 2, none⟩ (.int .i64 0))) := ⟨fun wx h1 h2 => HNo.out _ (by
    have hR : w.heap.size ≤ R := by rw [HRe.out]; exact Nat.le_refl _
    exact ((((HB0.out wx h1).setCell hR _).setCell hR _).setCell hR _)) h2⟩
  have HYes2 : Box (∀ wx x t (k : Nat), Below W0.heap.size W0 wx → readRec rd size p q = some (x, t, k) → PP (.returned (.tuple #[.agg #[.int .i64 x, .string (BA t), .int .i64 (k : Int)], .bool true])) (((wx.setCell ⟨R, 0, none⟩ (.int .i64 x)).setCell ⟨R, 1, none⟩ (.string (BA t))).setCell ⟨R, 2, none⟩ (.int .i64 (k : Int)))) := ⟨fun wx x t k h1 h2 => HYes.out _ _ _ _ (by
    have hR : w.heap.size ≤ R := by rw [HRe.out]; exact Nat.le_refl _
    exact ((((HB0.out wx h1).setCell hR _).setCell hR _).setCell hR _)) h2⟩
  have HRd0 : Box (∀ (k : Nat) (wx : World), Below W0.heap.size W0 wx → frm + k < n → 1 ≤ k → k < size → Calls Tryd.prog 20 #[.pointer (some ⟨D, 0, none⟩), .int .i64 ((frm : Int) + (k : Int))] wx fun e w' => e = .returned (.tuple #[.string (BA (rd k)), .int .i64 0]) ∧ w' = wx) := ⟨fun k wx h h3 h4 h5 => (HRd.out k wx (HB0.out wx h) h3).mono fun e w' ⟨a, b⟩ => ⟨by rw [a, HVw.out k h4 h5], b.symm⟩⟩
  clear HNo HYes HRd HVw HL c0 c1 c2 hLl
  have HRf := box (Below.refl W0.heap.size W0)
  obtain ⟨⟨c0, c1, c2, hLl⟩, ⟨r0, r1, r2, f0, f1, f2, hRl⟩⟩ := HC.out W0 HRf.out
  go_enter Tryd.func22, Tryd.ntmps22
  go_upto_region 1 with (fail)
  rw [HW0.out, HRe.out]
  by_cases hps : size ≤ p
  · have HN := box (HNo2.out W0 HRf.out (by unfold readRec; rw [if_pos hps]))
    go_wp2_with fail
    exact bodyPost_ret (v := .tuple #[.agg #[.int .i64 0, .string ⟨#[]⟩, .int .i64 0], .bool false]) (by simp [results, Tryd.results22, go_sem, r0, r1, r2]) rfl HN.out
  have hpI : (p : Int) < (size : Int) := by omega
  have hpS : p < size := by omega
  go_wp2_with fail
  have w1 : IntKind.i64.wrap ((frm : Int) + (p : Int)) = (frm : Int) + (p : Int) := IntWalk.i64_in _ (by omega)
  go_quiet ((go_at_call 20; exact Calls.quiet_of_same (HRd0.out p _ ⟨rfl, rfl, rfl, Nat.le_refl _, fun _ _ => rfl⟩ (by omega) hp hpS)))
  obtain ⟨V1, HV1⟩ : ∃ x, Box (W0.drewN nq = x) := ⟨_, ⟨rfl⟩⟩
  rw [HV1.out]
  have HBV1 : Box (Below W0.heap.size W0 V1) := ⟨by rw [← HV1.out]; exact ⟨rfl, rfl, rfl, Nat.le_refl _, fun _ _ => rfl⟩⟩
  clear HV1 c0 c1 c2 hLl r0 r1 r2 f0 f1 f2 hRl w1
  have hrl := hV.out p
  obtain ⟨m, r, hmr⟩ : ∃ m r, rd p = m :: r := by
    cases h : rd p with
    | nil => rw [h] at hrl; cases hrl
    | cons m r => exact ⟨m, r, rfl⟩
  have HHe : Box (∀ wx, Calls Tryd.prog 33 #[.string (BA (rd p)), .int .i64 (q : Int)] wx (HeadedP (rd p) q wx)) := ⟨fun wx => by
    rw [hmr]
    exact walHeaded_any m r q wx (by rw [hmr] at hrl; simp at hrl; omega)⟩
  clear hmr hrl
  go_wp2_with fail
  refine (HHe.out _).mono ?_
  rintro e w2 ⟨x, A, b, rfl, hb1, hb2, nn, rfl⟩
  obtain ⟨V2, HV2⟩ : ∃ x, Box (V1.drewN nn = x) := ⟨_, ⟨rfl⟩⟩
  rw [HV2.out]
  have HBV2 : Box (Below W0.heap.size W0 V2) := ⟨by rw [← HV2.out]; exact HBV1.out.trans ⟨rfl, rfl, rfl, Nat.le_refl _, fun _ _ => rfl⟩⟩
  clear HHe HBV1 HV2
  cases b with
  | false =>
    obtain ⟨_, ⟨r0, r1, r2, f0, f1, f2, hRl⟩⟩ := HC.out V2 HBV2.out
    have HN := box (HNo2.out V2 HBV2.out (read_none1 (hb2 rfl)))
    clear hb1 hb2
    go_wp2_with fail
    exact bodyPost_ret (v := .tuple #[.agg #[.int .i64 0, .string ⟨#[]⟩, .int .i64 0], .bool false]) (by simp [results, Tryd.results22, go_sem, r0, r1, r2]) rfl HN.out
  | true =>
  have HHd := box (hb1 rfl)
  have hAs : A.size ≤ 64 := by have := headed_len HHd.out; rw [hV.out p] at this; exact this
  have hxi := headed_i64 HHd.out
  have HGn := box (fun w => getNat_any A w (by omega))
  clear hb1 hb2
  obtain ⟨u, a, c, hx⟩ : ∃ u a c, CodeM.getNat A.data.toList = (u, a, c) := ⟨_, _, _, rfl⟩
  rw [hx] at HGn
  dsimp only [CodeM.tup] at HGn
  have Hx := box hx
  clear hx
  go_wp2_with fail
  refine (HGn.out _).mono ?_
  rintro e w3 ⟨rfl, rfl⟩
  clear HGn
  by_cases hc : c = 0
  case neg =>
    obtain ⟨_, ⟨r0, r1, r2, f0, f1, f2, hRl⟩⟩ := HC.out V2 HBV2.out
    have HN := box (HNo2.out V2 HBV2.out (read_none2 HHd.out (Or.inl (by rw [Hx.out]; exact hc))))
    have q2 : (c != 0) = true := by simpa using hc
    clear hc
    go_wp2_with fail
    exact bodyPost_ret (v := .tuple #[.agg #[.int .i64 0, .string ⟨#[]⟩, .int .i64 0], .bool false]) (by simp [results, Tryd.results22, go_sem, r0, r1, r2]) rfl HN.out
  subst hc
  by_cases hu : 300 < u
  · obtain ⟨_, ⟨r0, r1, r2, f0, f1, f2, hRl⟩⟩ := HC.out V2 HBV2.out
    have HN := box (HNo2.out V2 HBV2.out (read_none2 HHd.out (Or.inr (by rw [Hx.out]; exact hu))))
    have q2 : decide ((300 : Int) < (u : Int)) = true := decide_eq_true (by omega)
    clear hu
    go_wp2_with fail
    exact bodyPost_ret (v := .tuple #[.agg #[.int .i64 0, .string ⟨#[]⟩, .int .i64 0], .bool false]) (by simp [results, Tryd.results22, go_sem, r0, r1, r2]) rfl HN.out
  have q2 : decide ((300 : Int) < (u : Int)) = false := decide_eq_false (by omega)
  have hak : a ≤ 64 := by have := (CodeM.get_ok Hx.out).2.1; show a ≤ 64; exact Nat.le_trans this hAs
  have HHh := box (fun wx => walHead_any 2 x q wx hxi ⟨by omega, by omega⟩)
  have hhl := head_len 2 x q
  obtain ⟨G, HG⟩ : ∃ G, Box (gather rd size (head 2 x q) (a + u + 4) (size - p) (p + 1) A.data.toList = G) := ⟨_, ⟨rfl⟩⟩
  have HIs := box (read_is hpS HHd.out Hx.out (by omega) HG.out)
  go_wp2_with fail
  refine (HHh.out _).mono ?_
  rintro e w4 ⟨rfl, hb4⟩
  have HB4 := box (HBV2.out.trans (hb4.mono HBV2.out.size))
  clear hb4 HBV2 HHh
  obtain ⟨Hd, HHe⟩ : ∃ y, Box (head 2 x q = y) := ⟨_, ⟨rfl⟩⟩
  rw [HHe.out] at HG hhl ⊢
  have hHs : (BA Hd).size = Hd.length := rfl
  obtain ⟨c, Hc⟩ : ∃ y, Box (Hd.length = y) := ⟨_, ⟨rfl⟩⟩
  rw [Hc.out] at hHs hhl
  have HSt : Box (∃ (s : Nat) (acc : List UInt8), Value.string A = .string (BA acc) ∧ Value.int .i64 1 = .int .i64 (s : Int) ∧ 1 ≤ s ∧ p + s ≤ size ∧ acc.length ≤ 64 * s ∧ gather rd size Hd (a + u + 4) (size + 1 - p - s) (p + s) acc = G) :=
    ⟨1, A.data.toList, by rw [BA_of], rfl, Nat.le_refl _, hpS, by show A.size ≤ _; omega, by rw [show size + 1 - p - 1 = size - p by omega]; exact HG.out⟩
  clear HG
  go_wp2_with fail
  go_loopw [11, 16] (fun t11 t16 wr => Box ((∃ (s : Nat) (acc : List UInt8), t11 = .string (BA acc) ∧ t16 = .int .i64 (s : Int) ∧ 1 ≤ s ∧ p + s ≤ size ∧ acc.length ≤ 64 * s ∧ gather rd size Hd (a + u + 4) (size + 1 - p - s) (p + s) acc = G) ∧ Below W0.heap.size W0 wr)) (fun _ t16 _ => size + 1 - (RowKit.intOf t16).toNat)
  case atStart => exact ⟨HSt.out, HB4.out⟩
  case round =>
    obtain ⟨⟨s, acc, rfl, rfl, hs1, hs2, hacc, hg⟩, hbr⟩ := hrel.out
    have Hg := box hg; have HBr := box hbr
    clear hrel hg hbr HSt HB4
    obtain ⟨⟨c0, c1, c2, hLl⟩, ⟨r0, r1, r2, f0, f1, f2, hRl⟩⟩ := HC.out wr HBr.out
    obtain ⟨al, Hal⟩ : ∃ y, Box (acc.length = y) := ⟨_, ⟨rfl⟩⟩
    have has : (BA acc).size = al := Hal.out
    rw [Hal.out] at hacc
    by_cases hen : a + u + 4 ≤ al
    · have dE : decide ((al : Int) < (a : Int) + (u : Int) + 4) = false := decide_eq_false (by omega)
      have eG : G = some (acc, p + s) := by rw [← Hg.out, gather_enough (by rw [Hal.out]; exact hen)]
      have hxT : (BA acc).extract 0 (a + u + 4) = BA (acc.take (a + u + 4)) := BA_take _ _
      have hI4 : ((a : Int) + (u : Int) + 4).toNat = a + u + 4 := by omega
      have hu3 : u ≤ 300 := by omega
      have htl : (acc.take (a + u)).length = a + u := List.length_take_of_le (by rw [Hal.out]; omega)
      have hsp : (BA (acc.take (a + u + 4))).data.toList = acc.take (a + u) ++ (acc.drop (a + u)).take 4 := by rw [BA_list, List.take_add]
      have h4 : ((acc.drop (a + u)).take 4).length = 4 := by rw [List.length_take, List.length_drop, Hal.out]; omega
      have hrd : readRec rd size p q = tailOf p x a u (some (acc, p + s)) := by rw [HIs.out, eG]
      by_cases hfold : fold (acc.take (a + u)) = acc.take (a + u + 4)
      · have hrd2 : readRec rd size p q = some (x, (acc.take (a + u)).drop a, s) := by
          rw [hrd]
          show (if fold (acc.take (a + u)) = acc.take (a + u + 4) then some (x, (acc.take (a + u)).drop a, p + s - p) else none) = _
          rw [if_pos hfold, show p + s - p = s by omega]
        have HGt := box (fun (wx : World) => get_yes (BA (acc.take (a + u + 4))) (acc.take (a + u)) wx (by rw [BA_list, ← hfold]; rfl) (by omega))
        rw [show (⟨(acc.take (a + u)).toArray⟩ : ByteArray) = BA (acc.take (a + u)) from rfl] at HGt
        have hTs : (BA (acc.take (a + u))).size = a + u := htl
        have hTd : (BA (acc.take (a + u))).extract a (a + u) = BA ((acc.take (a + u)).drop a) := by have := BA_drop (acc.take (a + u)) a (by omega); rw [htl] at this; exact this
        have HY := box (fun wx (hb : Below W0.heap.size W0 wx) => HYes2.out wx _ _ _ hb hrd2)
        clear hfold hsp h4 hrd hrd2 eG htl Hg
        generalize BA ((acc.take (a + u)).drop a) = TX at *
        generalize BA (acc.take (a + u + 4)) = TZ at *
        generalize BA (acc.take (a + u)) = TY at *
        generalize BA acc = TA at *
        go_wp2_with fail
        refine (HGt.out _).mono ?_
        rintro e w6 ⟨rfl, hb6⟩
        have HB6 := box (HBr.out.trans (hb6.mono HBr.out.size))
        clear hb6 HGt r0 r1 r2 f0 f1 f2 hRl c0 c1 c2 hLl
        obtain ⟨_, ⟨r0, r1, r2, f0, f1, f2, hRl⟩⟩ := HC.out w6 HB6.out
        have HYY := box (HY.out w6 HB6.out)
        clear HY
        go_wp2_with fail
        exact bodyPost_ret (v := .tuple #[.agg #[.int .i64 x, .string TX, .int .i64 (s : Int)], .bool true]) (by simp [results, Tryd.results22, go_sem, r0, r1, r2]) rfl HYY.out
      · have hrd2 : readRec rd size p q = none := by
          rw [hrd]
          show (if fold (acc.take (a + u)) = acc.take (a + u + 4) then some (x, (acc.take (a + u)).drop a, p + s - p) else none) = _
          rw [if_neg hfold]
        have HGt := box (fun (wx : World) => get_no (BA (acc.take (a + u + 4))) (acc.take (a + u)) ((acc.drop (a + u)).take 4) wx hsp h4 (by omega) (fun e => hfold (by
          rw [show acc.take (a + u + 4) = acc.take (a + u) ++ (acc.drop (a + u)).take 4 from List.take_add]
          unfold fold
          rw [e])))
        have HY := box (fun wx (hb : Below W0.heap.size W0 wx) => HNo2.out wx hb hrd2)
        clear hfold hsp h4 hrd hrd2 eG htl Hg
        generalize BA (acc.take (a + u + 4)) = TZ at *
        generalize BA acc = TA at *
        go_wp2_with fail
        refine (HGt.out _).mono ?_
        rintro e w6 ⟨rfl, hb6⟩
        have HB6 := box (HBr.out.trans (hb6.mono HBr.out.size))
        clear hb6 HGt r0 r1 r2 f0 f1 f2 hRl c0 c1 c2 hLl
        obtain ⟨_, ⟨r0, r1, r2, f0, f1, f2, hRl⟩⟩ := HC.out w6 HB6.out
        have HN := box (HY.out w6 HB6.out)
        clear HY
        go_wp2_with fail
        exact bodyPost_ret (v := .tuple #[.agg #[.int .i64 0, .string ⟨#[]⟩, .int .i64 0], .bool false]) (by simp [results, Tryd.results22, go_sem, r0, r1, r2]) rfl HN.out
    · have dE : decide ((al : Int) < (a : Int) + (u : Int) + 4) = true := decide_eq_true (by omega)
      by_cases hfull : p + s = size
      · have HN := box (HNo2.out wr HBr.out (by
          have e1 : G = none := by
            rw [← Hg.out, show size + 1 - p - s = 1 by omega, gather, if_neg (by rw [Hal.out]; omega), if_pos (by omega)]
          rw [HIs.out, e1]; rfl))
        have hq : (size : Int) ≤ (p : Int) + (s : Int) := by omega
        clear Hg
        go_wp2_with fail
        exact bodyPost_ret (v := .tuple #[.agg #[.int .i64 0, .string ⟨#[]⟩, .int .i64 0], .bool false]) (by simp [results, Tryd.results22, go_sem, r0, r1, r2]) rfl HN.out
      have hlt : p + s < size := by omega
      have hq : ¬ (size : Int) ≤ (p : Int) + (s : Int) := by omega
      have w1 : IntKind.i64.wrap ((frm : Int) + (p : Int)) = (frm : Int) + (p : Int) := IntWalk.i64_in _ (by omega)
      have w2 : IntKind.i64.wrap ((frm : Int) + (p : Int) + (s : Int)) = (frm : Int) + (p : Int) + (s : Int) := IntWalk.i64_in _ (by omega)
      have HRx : Box (∀ k, Calls Tryd.prog 20 #[.pointer (some ⟨D, 0, none⟩), .int .i64 ((frm : Int) + (p : Int) + (s : Int))] (wr.drewN k) fun e w' => e = .returned (.tuple #[.string (BA (rd (p + s))), .int .i64 0]) ∧ w' = wr.drewN k) := ⟨fun k => by
        have := HRd0.out (p + s) (wr.drewN k) (HBr.out.trans ⟨rfl, rfl, rfl, Nat.le_refl _, fun _ _ => rfl⟩) (by omega) (by omega) hlt
        rw [show ((p + s : Nat) : Int) = (p : Int) + (s : Int) by omega, ← Int.add_assoc] at this
        exact this⟩
      go_wp2_with fail
      go_quiet ((go_at_call 20; exact Calls.quiet_of_same (HRx.out _)))
      obtain ⟨V, HV⟩ : ∃ y, Box (wr.drewN nq = y) := ⟨_, ⟨rfl⟩⟩
      rw [HV.out]
      have HBV : Box (Below W0.heap.size W0 V) := ⟨by rw [← HV.out]; exact HBr.out.trans ⟨rfl, rfl, rfl, Nat.le_refl _, fun _ _ => rfl⟩⟩
      clear HV r0 r1 r2 f0 f1 f2 hRl c0 c1 c2 hLl w1 w2 HRx HBr
      obtain ⟨pf, Hpf⟩ : ∃ y, Box (Hd.isPrefixOf (rd (p + s)) = y) := ⟨_, ⟨rfl⟩⟩
      have HPx : Box (∀ wx : World, Calls Tryd.prog 35 #[.string (BA (rd (p + s))), .string (BA Hd)] wx fun e w' => e = .returned (.bool pf) ∧ wx = w') := ⟨fun wx => (Tryd.strings_HasPrefix (BA (rd (p + s))) (BA Hd) wx).mono fun e w' ⟨h1, h2⟩ => ⟨by
        rw [h1, BA_list, BA_list, ← Hpf.out]; rfl, h2.symm⟩⟩
      have hstep : gather rd size Hd (a + u + 4) (size + 1 - p - s) (p + s) acc = if pf = true then gather rd size Hd (a + u + 4) (size + 1 - p - (s + 1)) (p + (s + 1)) (acc ++ (rd (p + s)).drop Hd.length) else none := by
        rw [show size + 1 - p - s = (size + 1 - p - (s + 1)) + 1 by omega, gather, if_neg (by rw [Hal.out]; omega), if_neg (by omega), Hpf.out]
        rfl
      cases pf with
      | false =>
        obtain ⟨_, ⟨r0, r1, r2, f0, f1, f2, hRl⟩⟩ := HC.out V HBV.out
        have HN := box (HNo2.out V HBV.out (by
          have e1 : G = none := by rw [← Hg.out, hstep, if_neg (by simp)]
          rw [HIs.out, e1]; rfl))
        clear hstep Hg
        go_wp2_with fail
        refine (HPx.out _).mono ?_
        rintro e w6 ⟨rfl, rfl⟩
        clear HPx
        go_wp2_with fail
        exact bodyPost_ret (v := .tuple #[.agg #[.int .i64 0, .string ⟨#[]⟩, .int .i64 0], .bool false]) (by simp [results, Tryd.results22, go_sem, r0, r1, r2]) rfl HN.out
      | true =>
        have HNx : Box (gather rd size Hd (a + u + 4) (size + 1 - p - (s + 1)) (p + (s + 1)) (acc ++ (rd (p + s)).drop Hd.length) = G) := ⟨by rw [← Hg.out, hstep, if_pos rfl]⟩
        have hXs : (BA (rd (p + s))).size = 64 := hV.out _
        have hXd : (BA (rd (p + s))).extract c 64 = BA ((rd (p + s)).drop Hd.length) := by
          have := BA_drop (rd (p + s)) Hd.length (by rw [hV.out, Hc.out]; omega)
          rw [hV.out, Hc.out] at this
          rw [this, Hc.out]
        have hAdd : BA acc ++ BA ((rd (p + s)).drop Hd.length) = BA (acc ++ (rd (p + s)).drop Hd.length) := BA_append _ _
        have hDs : (BA ((rd (p + s)).drop Hd.length)).size = 64 - c := by
          show ((rd (p + s)).drop Hd.length).length = _
          rw [List.length_drop, hV.out, Hc.out]
        have hln : (acc ++ (rd (p + s)).drop Hd.length).length ≤ 64 * (s + 1) := by
          rw [List.length_append, List.length_drop, hV.out, Hal.out]; omega
        have Hln := box hln
        clear hstep Hg hln
        generalize (acc ++ (rd (p + s)).drop Hd.length) = acc2 at *
        generalize BA ((rd (p + s)).drop Hd.length) = XD at *
        generalize BA (rd (p + s)) = XX at *
        go_wp2_with fail
        refine (HPx.out _).mono ?_
        rintro e w6 ⟨rfl, rfl⟩
        clear HPx
        go_wp2_with fail
        go_roundw
        case rel => exact ⟨⟨s + 1, acc2, rfl, by go_num, by omega, by omega, Hln.out, HNx.out⟩, HBV.out⟩
        case measure => simp [RowKit.intOf]; omega
end Go.Proofs.YtpeaefeoogcepaaDoor
