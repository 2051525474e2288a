/- A DISK OF SECTORS IN MEMORY; burn, Read, Fuse. -/
import Derived.Test.YtpeaefeoogcepaaDoorSectM
import Derived.Test.YtpeaefeoogcepaaDoorKept
namespace Go.Proofs.YtpeaefeoogcepaaDoor
open Go.RowKit Go.Lib

def strVals (l : List ByteArray) : List Value := l.map Value.string
theorem strVals_length (l : List ByteArray) : (strVals l).length = l.length := by simp [strVals]
theorem strVals_get {l : List ByteArray} {i : Nat} (h : i < l.length) : (strVals l)[i]? = some (.string l[i]) := by simp [strVals, h]
theorem strVals_oneCell (l : List ByteArray) : ∀ u ∈ strVals l, u.oneCell' = true := by
  intro u hu
  obtain ⟨_, _, rfl⟩ := List.mem_map.1 hu
  rfl
def lateVals : List (Nat × ByteArray) → List Value
  | [] => []
  | x :: r => .int .i64 (x.1 : Int) :: .string x.2 :: lateVals r
theorem lateVals_length : ∀ l : List (Nat × ByteArray), (lateVals l).length = l.length * 2
  | [] => rfl
  | x :: r => by simp only [lateVals, List.length_cons, lateVals_length r]; omega
theorem lateVals_snoc (x : Nat × ByteArray) : ∀ l : List (Nat × ByteArray), lateVals (l ++ [x]) = lateVals l ++ [.int .i64 (x.1 : Int), .string x.2]
  | [] => rfl
  | y :: r => by show _ :: _ :: lateVals (r ++ [x]) = _; rw [lateVals_snoc x r]; rfl
theorem lateVals_get : ∀ (l : List (Nat × ByteArray)) (i : Nat) (h : i < l.length), (lateVals l)[i * 2]? = some (.int .i64 (l[i].1 : Int)) ∧ (lateVals l)[i * 2 + 1]? = some (.string l[i].2)
  | [], i, h => absurd h (Nat.not_lt_zero i)
  | x :: r, 0, _ => ⟨rfl, rfl⟩
  | x :: r, i + 1, h => by
    have := lateVals_get r i (by simpa using h)
    exact ⟨by rw [show (i + 1) * 2 = i * 2 + 2 by omega]; exact this.1, by rw [show (i + 1) * 2 + 1 = i * 2 + 1 + 2 by omega]; exact this.2⟩

/-- Disk D, its rows at vs, ve, vl. -/
structure SectM.At (w : World) (base D : Nat) (vs ve vl : Value) (d : DiskM) : Prop where
  blk : Blk w D 59 [vs, ve, vl, .int .i64 d.left]
  lt : base ≤ D
  safe : w.ownsRow base 9 1 vs d.safe.length (strVals d.safe)
  seen : w.ownsRow base 9 1 ve d.seen.length (strVals d.seen)
  late : w.ownsRow base 61 2 vl d.late.length (lateVals d.late)
  apart : ∀ g, vs.ownBlock = some g → ve.ownBlock ≠ some g
  left : -1 ≤ d.left ∧ d.left ≤ 9223372036854775807
def SectM.Mine (D : Nat) (vs ve vl : Value) : Nat → Prop := fun b => b = D ∨ vs.ownBlock = some b ∨ ve.ownBlock = some b ∨ vl.ownBlock = some b

section
variable {w w' : World} {base D : Nat} {vs ve vl : Value} {d : DiskM}
theorem SectM.At.below (h : SectM.At w base D vs ve vl d) (hb : Below w.heap.size w w') : SectM.At w' base D vs ve vl d :=
  ⟨h.blk.after hb, h.lt, ownsRow_below h.safe hb, ownsRow_below h.seen hb, ownsRow_below h.late hb, h.apart, h.left⟩
theorem SectM.At.mine_lt (h : SectM.At w base D vs ve vl d) {b : Nat} (hb : SectM.Mine D vs ve vl b) : base ≤ b ∧ b < w.heap.size := by
  rcases hb with rfl | hb | hb | hb
  · exact ⟨h.lt, h.blk.lt⟩
  · exact h.safe.lt b hb
  · exact h.seen.lt b hb
  · exact h.late.lt b hb
/-- A store into the disk's own cell of what is left. -/
theorem SectM.At.setLeft (h : SectM.At w base D vs ve vl d) {n : Int} (hn : -1 ≤ n ∧ n ≤ 9223372036854775807) : SectM.At (w.setCell ⟨D, 3, none⟩ (.int .i64 n)) base D vs ve vl { d with left := n } := by
  have hne : ∀ {e size n : Nat} {v : Value} {xs : List Value}, w.ownsRow base e size v n xs → e ≠ 59 → (w.setCell ⟨D, 3, none⟩ (.int .i64 ‹Int›)).ownsRow base e size v n xs := fun ho he => ownsRow_setCell_other ho (h.blk.ne_own ho (Ne.symm he)) _
  exact ⟨h.blk.set 3 _, h.lt, hne h.safe (by decide), hne h.seen (by decide), hne h.late (by decide), h.apart, hn⟩
end

def SectM.burn (d : DiskM) : DiskM := if SectM.flushed d = 0 then SectM.burnt d else d

set_option maxRecDepth 20000 in
set_option maxHeartbeats 2000000 in
theorem sectBurn_any (w : World) (base D : Nat) (vs ve vl : Value) (d : DiskM) (h : SectM.At w base D vs ve vl d) :
    Calls Tryd.prog 29 #[.pointer (some ⟨D, 0, none⟩)] w fun e w' => e = .returned (.int .i64 (SectM.flushed d)) ∧
      SectM.At w' base D vs ve vl (SectM.burn d) ∧ KeptS (SectM.Mine D vs ve vl) w w' := by
  have H := box h
  obtain ⟨l1, l2⟩ := h.left
  have y3 := h.blk.cell (i := 3) rfl
  have z3 := h.blk.frozen 3
  clear h
  have HF := box (show SectM.flushed d = if d.left = 0 then 13 else 0 from rfl)
  have HB := box (show SectM.burnt d = if 0 < d.left then { d with left := d.left - 1 } else d from rfl)
  have HU := box (show SectM.burn d = if SectM.flushed d = 0 then SectM.burnt d else d from rfl)
  have HL := box (SectM.At.setLeft (n := d.left - 1) H.out)
  obtain ⟨L, HLe⟩ : ∃ L, Box (d.left = L) := ⟨_, ⟨rfl⟩⟩
  rw [HLe.out] at l1 l2 y3
  go_enter Tryd.func29, Tryd.ntmps29
  cases b1 : (L == 0) with
  | true =>
    have HE : Box (d.left = 0) := ⟨HLe.out.trans (by simpa using b1)⟩
    go_wp2_with fail
    refine bodyPost_ret (v := .int .i64 13) (by simp [results, Tryd.results29, go_sem]) rfl ⟨?_, ?_, ?_⟩
    · rw [HF.out, if_pos HE.out]
    · rw [HU.out, HF.out, if_pos HE.out, if_neg (by decide)]; exact H.out
    · exact KeptS.refl _ _
  | false =>
    have HE : Box (¬ d.left = 0) := ⟨by rw [HLe.out]; simpa using b1⟩
    cases b2 : decide (0 < L) with
    | true =>
      have HP : Box (0 < d.left) := ⟨by rw [HLe.out]; simpa using b2⟩
      go_wp2_with fail
      refine bodyPost_ret (v := .int .i64 0) (by simp [results, Tryd.results29, go_sem]) rfl ⟨?_, ?_, ?_⟩
      · rw [HF.out, if_neg HE.out]
      · rw [HU.out, HF.out, if_neg HE.out, if_pos rfl, HB.out, if_pos HP.out, ← HLe.out]
        exact HL.out ⟨by have := HP.out; omega, by have := HLe.out; omega⟩
      · exact (KeptS.refl _ _).set (Or.inl (Or.inl rfl)) _ _
    | false =>
      have HP : Box (¬ 0 < d.left) := ⟨by rw [HLe.out]; simpa using b2⟩
      go_wp2_with fail
      refine bodyPost_ret (v := .int .i64 0) (by simp [results, Tryd.results29, go_sem]) rfl ⟨?_, ?_, ?_⟩
      · rw [HF.out, if_neg HE.out]
      · rw [HU.out, HF.out, if_neg HE.out, if_pos rfl, HB.out, if_neg (by have := HP.out; omega)]; exact H.out
      · exact KeptS.refl _ _

/-- What a read answers. -/
def SectM.readE (d : DiskM) (at_ : Int) : Int := if at_ < 0 ∨ (d.safe.length : Int) ≤ at_ then 1 else if d.left = 0 then 13 else 0
def SectM.readV (d : DiskM) (at_ : Int) : ByteArray := if SectM.readE d at_ = 0 then d.seen.getD at_.toNat SectM.blank else ByteArray.empty

set_option maxRecDepth 20000 in
set_option maxHeartbeats 2000000 in
theorem sectRead_any (w : World) (base D : Nat) (vs ve vl : Value) (d : DiskM) (h : SectM.At w base D vs ve vl d) (hn : d.seen.length = d.safe.length) (h1 : 1 ≤ d.safe.length) (h2 : d.safe.length ≤ 256) (at_ : Int) :
    Calls Tryd.prog 20 #[.pointer (some ⟨D, 0, none⟩), .int .i64 at_] w fun e w' => e = .returned (.tuple #[.string (SectM.readV d at_), .int .i64 (SectM.readE d at_)]) ∧ w = w' := by
  have H := box h
  obtain ⟨gs, cs, rfl, _, _, hcs⟩ := ownsRow_shape h.safe (by rintro rfl; rcases h.safe.2 with ⟨_, h3⟩ | ⟨_, _, _, h3, _⟩ <;> first | omega | cases h3)
  obtain ⟨ge, ce, rfl, _, _, hce⟩ := ownsRow_shape h.seen (by rintro rfl; rcases h.seen.2 with ⟨_, h3⟩ | ⟨_, _, _, h3, _⟩ <;> first | omega | cases h3)
  have hcell : ∀ k, k < d.seen.length → w.cell? ⟨ge, k, none⟩ = some (.string (d.seen.getD k SectM.blank)) := fun k hk => by
    have := h.seen.cells (g := ge) rfl k _ (strVals_get hk)
    rw [Addr.add_lit, Nat.zero_add] at this
    rw [this, List.getD_eq_getElem?_getD, List.getElem?_eq_getElem hk]
    rfl
  have y0 := h.blk.cell (i := 0) rfl
  have y1 := h.blk.cell (i := 1) rfl
  have y3 := h.blk.cell (i := 3) rfl
  have HF := box (show SectM.readE d at_ = if at_ < 0 ∨ (d.safe.length : Int) ≤ at_ then 1 else if d.left = 0 then 13 else 0 from rfl)
  have HV := box (show SectM.readV d at_ = if SectM.readE d at_ = 0 then d.seen.getD at_.toNat SectM.blank else ByteArray.empty from rfl)
  obtain ⟨N, HN⟩ : ∃ N, Box (d.safe.length = N) := ⟨_, ⟨rfl⟩⟩
  obtain ⟨L, HL⟩ : ∃ L, Box (d.left = L) := ⟨_, ⟨rfl⟩⟩
  rw [hn, HN.out] at y1 hcell hce
  rw [HN.out] at y0 hcs h1 h2
  rw [HL.out] at y3
  have HC := box hcell
  clear h hn hcell
  go_enter Tryd.func20, Tryd.ntmps20
  cases b1 : decide (at_ < 0) with
  | true =>
    have HE : Box (SectM.readE d at_ = 1) := ⟨by rw [HF.out, if_pos (Or.inl (by simpa using b1))]⟩
    have HW : Box (SectM.readV d at_ = ByteArray.empty) := ⟨by rw [HV.out, HE.out, if_neg (by decide)]⟩
    rw [HE.out, HW.out]
    go_wp2_with fail
    refine bodyPost_ret (v := .tuple #[.string ByteArray.empty, .int .i64 1]) (by simp [results, Tryd.results20, go_sem]; rfl) rfl ⟨rfl, rfl⟩
  | false =>
    obtain ⟨k, rfl⟩ : ∃ k : Nat, at_ = (k : Int) := ⟨at_.toNat, by have := of_decide_eq_false b1; omega⟩
    cases b2 : decide (N ≤ k) with
    | true =>
      have HE : Box (SectM.readE d k = 1) := ⟨by rw [HF.out, if_pos (Or.inr (by rw [HN.out]; have := of_decide_eq_true b2; omega))]⟩
      have HW : Box (SectM.readV d k = ByteArray.empty) := ⟨by rw [HV.out, HE.out, if_neg (by decide)]⟩
      rw [HE.out, HW.out]
      go_wp2_with fail
      refine bodyPost_ret (v := .tuple #[.string ByteArray.empty, .int .i64 1]) (by simp [results, Tryd.results20, go_sem]; rfl) rfl ⟨rfl, rfl⟩
    | false =>
      have hk : k < N := by have := of_decide_eq_false b2; omega
      cases b3 : (L == 0) with
      | true =>
        have HE : Box (SectM.readE d k = 13) := ⟨by rw [HF.out, if_neg (by rw [HN.out]; omega), if_pos (by rw [HL.out]; simpa using b3)]⟩
        have HW : Box (SectM.readV d k = ByteArray.empty) := ⟨by rw [HV.out, HE.out, if_neg (by decide)]⟩
        rw [HE.out, HW.out]
        go_wp2_with fail
        refine bodyPost_ret (v := .tuple #[.string ByteArray.empty, .int .i64 13]) (by simp [results, Tryd.results20, go_sem]; rfl) rfl ⟨rfl, rfl⟩
      | false =>
        have HE : Box (SectM.readE d k = 0) := ⟨by rw [HF.out, if_neg (by rw [HN.out]; omega), if_neg (by rw [HL.out]; simpa using b3)]⟩
        have hc := HC.out k hk
        have HW : Box (SectM.readV d k = d.seen.getD k SectM.blank) := ⟨by rw [HV.out, HE.out, if_pos rfl, Int.toNat_natCast]⟩
        rw [HE.out, HW.out]
        generalize d.seen.getD k SectM.blank = x at *
        go_wp2_with fail
        refine bodyPost_ret (v := .tuple #[.string x, .int .i64 0]) (by simp [results, Tryd.results20, go_sem]) rfl ⟨rfl, rfl⟩

set_option maxRecDepth 20000 in
set_option maxHeartbeats 2000000 in
theorem sectFuse_any (w : World) (base D : Nat) (vs ve vl : Value) (d : DiskM) (h : SectM.At w base D vs ve vl d) (n : Int) (hn : n ≤ 9223372036854775807) :
    Calls Tryd.prog 11 #[.pointer (some ⟨D, 0, none⟩), .int .i64 n] w fun e w' => e = .returned (.tuple #[]) ∧
      SectM.At w' base D vs ve vl (SectM.fuse d n) ∧ KeptS (SectM.Mine D vs ve vl) w w' := by
  have H := box h
  have y3 := h.blk.cell (i := 3) rfl
  have z3 := h.blk.frozen 3
  clear h
  have HF := box (show SectM.fuse d n = { d with left := if n < -1 then -1 else n } from rfl)
  have HL := box (fun n h => SectM.At.setLeft (n := n) H.out h)
  obtain ⟨L, HLe⟩ : ∃ L, Box (d.left = L) := ⟨_, ⟨rfl⟩⟩
  rw [HLe.out] at y3
  go_enter Tryd.func11, Tryd.ntmps11
  cases b1 : decide (n < -1) with
  | true =>
    have HE : Box (SectM.fuse d n = { d with left := -1 }) := ⟨by rw [HF.out, if_pos (of_decide_eq_true b1)]⟩
    rw [HE.out]
    have hm : n < -1 := of_decide_eq_true b1
    go_wp2_with fail
    refine bodyPost_end (results_none rfl _ _ _) rfl ⟨rfl, HL.out _ (by omega), (KeptS.refl _ _).set (Or.inl (Or.inl rfl)) _ _⟩
  | false =>
    have HE : Box (SectM.fuse d n = { d with left := n }) := ⟨by rw [HF.out, if_neg (of_decide_eq_false b1)]⟩
    rw [HE.out]
    have hm : ¬ n < -1 := of_decide_eq_false b1
    go_wp2_with fail
    refine bodyPost_end (results_none rfl _ _ _) rfl ⟨rfl, HL.out _ (by have := of_decide_eq_false b1; omega), (KeptS.refl _ _).set (Or.inl (Or.inl rfl)) _ _⟩
end Go.Proofs.YtpeaefeoogcepaaDoor
