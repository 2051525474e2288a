/- LockOwn is proved for every input. -/
import Derived.Test.YtjbmkhalmmahkaaLawKit
import Derived.Test.YtjbmkhalmmahkaaLkG
import Derived.Test.YtjbmkhalmmahkaaLkWaits
import Derived.Test.YtjbmkhalmmahkaaLisClone
import Derived.Test.YtjbmkhalmmahkaaDagV
import Derived.Test.YtjbmkhalmmahkaaLkAskQ
import Derived.Deep.RegionHeld3
namespace Go.Proofs.Ytjbmkhalmmahkaa
open Go.RowKit Go.Lib

/-- The table handed in to Ask and Drop: its first K lists are copied, with spare memory behind them. -/
structure LkM.OwnS (w : World) (B F : Nat) (t : List LiM) (v : Nat → Value) (ua : Option Addr) (uc : Nat) (g : Nat → Nat) (K : Nat) (W : World) : Prop where
  below : Below w.heap.size w W
  fill : Blk W F 28 [.int .i64 77, .int .i64 0]
  amp : LkM.AmpT W B t ⟨77, 0⟩ g K
  tab : t = [] ∨ ∃ G, ua = some ⟨G, 0, none⟩ ∧ (∀ i, i < K → g i ≠ G) ∧ B ≤ G ∧ W.ownsRow B 32 3 (.slice (some ⟨G, 0, none⟩) t.length uc) t.length (LkM.liVals t (LkM.mixV g t K v))
theorem LkM.OwnS.after {w W W' : World} {B F : Nat} {t : List LiM} {v : Nat → Value} {ua : Option Addr} {uc K : Nat} {g : Nat → Nat} (h : LkM.OwnS w B F t v ua uc g K W) (hb : Below W.heap.size W W') : LkM.OwnS w B F t v ua uc g K W' :=
  ⟨h.below.trans (hb.mono h.below.size), h.fill.after hb, h.amp.after hb, h.tab.imp id fun ⟨G, h1, h2, h3, h4⟩ => ⟨G, h1, h2, h3, ownsRow_below h4 hb⟩⟩
theorem LkM.OwnS.lis {w W : World} {B F : Nat} {t : List LiM} {v : Nat → Value} {ua : Option Addr} {uc : Nat} {g : Nat → Nat} (h : LkM.OwnS w B F t v ua uc g (2 * t.length) W) : LisIn W B ua t := by
  rcases h.tab with h1 | ⟨G, rfl, _, _, h4⟩
  · exact Or.inl h1
  · exact LkM.amp_lis h4 h.amp

/-- What Ask and Drop leave, whatever table. -/
def LkM.askR (t : List LiM) (tx item mode : Int) : List LiM := if LkM.askE t tx item mode = 0 then (LkM.askIn item ⟨tx, mode⟩ t).1 else []
def LkM.dropL (t : List LiM) (tx : Int) : List LiM := if LkM.dropE t tx = 0 then (LkM.drop t tx).1 else []
theorem LkM.askR_small (t : List LiM) (tx item mode : Int) : LkM.Small (LkM.askR t tx item mode) := by
  unfold LkM.askR
  split
  · rename_i h1
    have hg : LkM.Good t := LkM.check_iff.1 (Classical.byContradiction fun hn => by
      unfold LkM.askE at h1
      rw [if_pos hn] at h1
      exact hn h1)
    unfold LkM.askE at h1
    rw [if_neg (by rw [LkM.check_iff.2 hg]; simp)] at h1
    split at h1
    · cases h1
    rename_i h3
    split at h1
    · cases h1
    rename_i h4
    have hm : 1 ≤ mode ∧ mode ≤ 5 := Classical.byContradiction fun hn => h3 (Or.inr (Or.inr (Or.inr (Or.inr hn))))
    exact (LkM.ask_good (a := ⟨tx, mode⟩) ⟨by show 0 ≤ tx; omega, by show tx < 12; omega, hm⟩ ⟨by omega, by omega⟩ hg (by simpa using h4)).small
  · exact LkM.Good.nil.small
theorem LkM.dropL_small (t : List LiM) (tx : Int) : LkM.Small (LkM.dropL t tx) := by
  unfold LkM.dropL
  split
  · rename_i h1
    have hg : LkM.Good t := LkM.check_iff.1 (Classical.byContradiction fun hn => by
      unfold LkM.dropE at h1
      rw [if_pos hn] at h1
      exact hn h1)
    exact (LkM.drop_ok hg tx).1.small
  · exact LkM.Good.nil.small
def LkM.AskO (t : List LiM) (tx item mode : Int) (w : World) (e : Ending) (w' : World) : Prop :=
  Below w.heap.size w w' ∧ ∃ a c b e', e = .returned (.tuple #[.slice a (LkM.askR t tx item mode).length c, .bool b, .int .i64 e']) ∧ LisIn w' w.heap.size a (LkM.askR t tx item mode)
def LkM.DropO (t : List LiM) (tx : Int) (w : World) (e : Ending) (w' : World) : Prop :=
  Below w.heap.size w w' ∧ ∃ a c ga gl gc e', e = .returned (.tuple #[.slice a (LkM.dropL t tx).length c, .slice ga gl gc, .int .i64 e']) ∧ LisIn w' w.heap.size a (LkM.dropL t tx)
theorem ask_o (t : List LiM) (ao : Option Addr) (cap lo : Nat) (tx item mode : Int) (w : World) (h : LisIn w lo ao t) (hs : LkM.Small t) :
    Calls Try.prog 6 #[.slice ao t.length cap, .int .i64 tx, .int .i64 item, .int .i64 mode] w (LkM.AskO t tx item mode w) := by
  refine (ask_any t ao cap lo tx item mode w h hs).mono ?_
  unfold LkM.AskO LkM.askR
  rintro e w' ⟨hb, ⟨h1, rfl⟩ | ⟨h1, a, c, rfl, h2⟩⟩
  · rw [if_neg h1]
    exact ⟨hb, none, 0, _, _, rfl, Or.inl rfl⟩
  · rw [if_pos h1]
    exact ⟨hb, a, c, _, _, rfl, h2⟩
theorem drop_o (t : List LiM) (ao : Option Addr) (cap lo : Nat) (tx : Int) (w : World) (h : LisIn w lo ao t) (hs : LkM.Small t) :
    Calls Try.prog 9 #[.slice ao t.length cap, .int .i64 tx] w (LkM.DropO t tx w) := by
  refine (drop_any t ao cap lo tx w h hs).mono ?_
  unfold LkM.DropO LkM.dropL
  rintro e w' ⟨hb, ⟨h1, rfl⟩ | ⟨h1, a, c, ga, gc, rfl, h2, _⟩⟩
  · rw [if_neg h1]
    exact ⟨hb, none, 0, none, 0, 0, _, rfl, Or.inl rfl⟩
  · rw [if_pos h1]
    exact ⟨hb, a, c, ga, _, gc, _, rfl, h2⟩
theorem waits_o (t : List LiM) (ao : Option Addr) (cap lo : Nat) (w : World) (h : LisIn w lo ao t) (hs : LkM.Small t) :
    Calls Try.prog 10 #[.slice ao t.length cap] w fun e w' => Below w.heap.size w w' ∧ ∃ v, e = .returned v := by
  refine (waits_any t ao cap lo w h hs).mono ?_
  rintro e w' ⟨hb, ⟨_, rfl⟩ | ⟨_, v, rfl, _⟩⟩
  · exact ⟨hb, _, rfl⟩
  · exact ⟨hb, _, rfl⟩
/-- The table is spoiled: its lists from K on still stand. -/
structure LkM.SpS (w : World) (B F : Nat) (t : List LiM) (v : Nat → Value) (G uc : Nat) (g : Nat → Nat) (LA K : Nat) (W : World) : Prop where
  below : Below w.heap.size w W
  fill : Blk W F 28 [.int .i64 77, .int .i64 0]
  rows : ∀ i, K ≤ i → i < 2 * t.length → LkAmple W B (g i) (LkM.row t i) ⟨77, 0⟩
  apart : ∀ i j, i < 2 * t.length → j < 2 * t.length → i ≠ j → g i ≠ g j
  at_ : ∀ i, i < 2 * t.length → B ≤ g i ∧ g i < LA ∧ g i ≠ G
  tab : W.ownsRow B 32 3 (.slice (some ⟨G, 0, none⟩) t.length uc) t.length (LkM.liVals t (LkM.mixV g t (2 * t.length) v))
  la : LA ≤ W.heap.size
section
variable {w W W' : World} {B F G uc LA K : Nat} {t : List LiM} {v : Nat → Value} {g : Nat → Nat}
theorem LkM.SpS.after (h : LkM.SpS w B F t v G uc g LA K W) (hb : Below W.heap.size W W') : LkM.SpS w B F t v G uc g LA K W' :=
  ⟨h.below.trans (hb.mono h.below.size), h.fill.after hb, fun i h1 h2 => (h.rows i h1 h2).after hb, h.apart, h.at_, ownsRow_below h.tab hb, Nat.le_trans h.la hb.size⟩
/-- List K is spoiled. -/
theorem LkM.SpS.spoil (h : LkM.SpS w B F t v G uc g LA K W) (hK : K < 2 * t.length) (hF : F < B) (hw : w.heap.size ≤ B) (hg : W.grownBy W' (some (g K))) : LkM.SpS w B F t v G uc g LA (K + 1) W' := by
  have hk := h.at_ K hK
  refine ⟨h.below.grown hg h.below.size (fun b e => by injection e with e; omega), h.fill.grown hg (by intro e; injection e with e; omega), fun i h1 h2 => ?_, h.apart, h.at_, h.tab.kept hg (Or.inr (by simp [Value.ownBlock]; exact fun e => hk.2.2 e.symm)), Nat.le_trans h.la hg.size⟩
  exact World.ownsRow.kept (h.rows i (by omega) h2) hg (Or.inr (by simp [Value.ownBlock]; exact h.apart i K h2 hK (by omega)))
/-- A table above stays. -/
theorem LkM.SpS.lis (h : LkM.SpS w B F t v G uc g LA K W) (hK : K < 2 * t.length) (hg : W.grownBy W' (some (g K))) {lo : Nat} {a : Option Addr} {r : List LiM} (hl : LisIn W lo a r) (hlo : LA ≤ lo) : LisIn W' lo a r :=
  hl.keep (fun b h1 h2 => hg.block b h2 (fun e => by injection e with e; have := h.at_ K hK; omega)) hg.size
end

set_option maxRecDepth 100000 in
set_option maxHeartbeats 32000000 in
theorem lockOwn_calls (t : List LiM) (v : Nat → Value) (tx item mode : Int) (ao : Option Addr) (cap : Nat) (w : World) (h : LkM.InV w ao t v) (hnil : ao = none → cap = 0) (hn : t.length * 56 ≤ 140737488355328) :
    Calls Try.prog 3 #[.slice ao t.length cap, .int .i64 tx, .int .i64 item, .int .i64 mode] w fun e w' => e = .returned (.bool true) ∧ Below w.heap.size w w' := by
  have H := box h; have HNil := box hnil
  have HSm : Box (LkM.Small t) := ⟨by omega, fun x hx => by
    obtain ⟨k, hk, rfl⟩ := List.mem_iff_getElem.1 hx
    obtain ⟨_, _, _, _, _, h1⟩ := h.rows (2 * k) (by omega)
    obtain ⟨_, _, _, _, _, h2⟩ := h.rows (2 * k + 1) (by omega)
    rw [LkM.row_held hk] at h1
    rw [LkM.row_queue hk] at h2
    omega⟩
  clear h hnil
  obtain ⟨N, HN⟩ : ∃ N, Box (t.length = N) := ⟨_, ⟨rfl⟩⟩
  rw [HN.out] at hn ⊢
  have hN9 : N ≤ 9000000000000 := by omega
  go_enter Try.func3, Try.ntmps3
  go_wp2_with fail
  refine (ask_nil 0 1 2 3 w (by decide)).mono ?_
  rintro e w1 ⟨hb1, ao1, c1, rfl, _hL1⟩
  have HB1 := box hb1
  clear hb1 _hL1
  go_upto_region 5 with (fail)
  refine name_world (fun W => Below w.heap.size w W ∧ Blk W w1.heap.size 28 [.int .i64 77, .int .i64 0]) ⟨HB1.out.alloc HB1.out.size _, Blk.new _ _ _⟩ ?_
  rintro W2 ⟨g1, g2⟩
  have HG := box g1; have HFb := box g2
  have hFB : w.heap.size ≤ w1.heap.size := HB1.out.size
  clear g1 g2 HB1
  generalize w1.heap.size = F at *
  have hcl := clone_lis t v ao cap W2 (H.out.below HG.out) HNil.out (by rw [HN.out]; exact hn)
  rw [HN.out] at hcl
  have HCl := box hcl
  clear hcl
  go_wp2_with fail
  refine HCl.out.mono ?_
  rintro e W3 ⟨⟨u, rfl, hown⟩, hb3⟩
  obtain ⟨B, HBe⟩ : ∃ B, Box (W2.heap.size = B) := ⟨_, ⟨rfl⟩⟩
  have hFltB : F < B := by rw [← HBe.out]; exact HFb.out.lt
  have hBV : w.heap.size ≤ B := by rw [← HBe.out]; exact HG.out.size
  obtain ⟨ua, uc, rfl, hO⟩ : ∃ ua uc, u = .slice ua N uc ∧ LkM.OwnS w B F t v ua uc (fun _ => 0) 0 W3 := by
    have hAm : LkM.AmpT W3 B t ⟨77, 0⟩ (fun _ => 0) 0 := ⟨fun i hi => by omega, fun i _ hi => by omega⟩
    have hbw : Below w.heap.size w W3 := HG.out.trans (hb3.mono HG.out.size)
    rcases hown.2 with ⟨h1, h2⟩ | ⟨G, uc, cur, h1, h2, h3⟩
    · have : t = [] := List.eq_nil_of_length_eq_zero (by rw [HN.out]; exact h2)
      exact ⟨none, 0, by rw [h1, h2], hbw, HFb.out.after hb3, hAm, Or.inl this⟩
    · refine ⟨some ⟨G, 0, none⟩, uc, h1, hbw, HFb.out.after hb3, hAm, Or.inr ⟨G, rfl, fun i hi => by omega, by rw [← HBe.out]; exact h2, ?_⟩⟩
      rw [h1, ← HN.out, HBe.out] at hown
      rw [LkM.liVals_congr (v' := v) (fun i _ => LkM.mixV_high _ _ _ (by omega))]
      exact hown
  have HO := box hO
  clear hO hown hb3 HCl HG HFb
  go_wp2_with fail
  go_loopw [46] (fun t46 wr => ∃ (k : Nat) (g : Nat → Nat), k ≤ N ∧ t46 = .int .i64 (k : Int) ∧ Box (LkM.OwnS w B F t v ua uc g (2 * k) wr)) (fun t46 _ => N - (RowKit.intOf t46).toNat)
  case atStart => exact ⟨0, _, Nat.zero_le _, rfl, HO⟩
  case round =>
    obtain ⟨k, g, hk, rfl, HR⟩ := hrel
    clear HO
    by_cases hlt : k < N
    · have hkl : k < t.length := by rw [HN.out]; exact hlt
      obtain ⟨G, rfl, hGn, hBG, htab⟩ := HR.out.tab.resolve_left (by intro h; rw [h] at hkl; simp at hkl)
      obtain ⟨ha, hc, hv, _, hanil, hal⟩ := H.out.rows (2 * k) (by omega)
      obtain ⟨qa, qc, qv, _, qanil, qal⟩ := H.out.rows (2 * k + 1) (by omega)
      have hGlt : G < wr.heap.size := (World.ownsRow.lt htab G rfl).2
      have HCa := box (fun (wx : World) (hb : Below w.heap.size w wx) => ampleLk_any (LkM.row t (2 * k)) ⟨77, 0⟩ ha hc wx (by
        obtain ⟨a', c', h1, h2, _⟩ := H.out.rows (2 * k) (by omega)
        rw [hv] at h1
        injection h1 with h1
        subst h1
        exact h2.below hb (Nat.le_refl _)) hanil (by omega))
      have HCb := box (fun (wx : World) (hb : Below w.heap.size w wx) => ampleLk_any (LkM.row t (2 * k + 1)) ⟨77, 0⟩ qa qc wx (by
        obtain ⟨a', c', h1, h2, _⟩ := H.out.rows (2 * k + 1) (by omega)
        rw [qv] at h1
        injection h1 with h1
        subst h1
        exact h2.below hb (Nat.le_refl _)) qanil (by omega))
      have HHv : Box (LkM.mixV g t (2 * k) v (2 * k) = .slice ha (LkM.row t (2 * k)).length hc) := ⟨by rw [LkM.mixV_high _ _ _ (by omega)]; exact hv⟩
      have HQv : Box (LkM.mixV g t (2 * k) v (2 * k + 1) = .slice qa (LkM.row t (2 * k + 1)).length qc) := ⟨by rw [LkM.mixV_high _ _ _ (by omega)]; exact qv⟩
      have HAm := box HR.out.amp; have HGn := box hGn
      have HFl := box HR.out.fill
      have hFG : F ≠ G := HR.out.fill.ne_own htab (by decide) |> fun h e => h (by rw [e]; rfl)
      have HFk : Box (∀ wx : World, (∀ b, b < wr.drew.heap.size → b ≠ G → wx.heap[b]? = wr.drew.heap[b]?) → Blk wx F 28 [.int .i64 77, .int .i64 0]) := ⟨fun wx hx => (hx F HFl.out.lt hFG).trans HFl.out⟩
      have HSt : Box (∀ v10 v17, LkM.AmS wr.drew B G uc t (LkM.mixV g t (2 * k) v) k ⟨77, 0⟩ false false false false v10 v17 wr.drew) := ⟨fun _ _ => LkM.AmS.start hBG hGlt htab.drew⟩
      have HVb : Box (Below w.heap.size w wr.drew) := ⟨HR.out.below.drew⟩
      have hki : (k : Int) < (N : Int) := by omega
      clear hv qv hal qal hGn htab HR hFG
      obtain ⟨HL, HHL⟩ : ∃ x, Box ((LkM.row t (2 * k)).length = x) := ⟨_, ⟨rfl⟩⟩
      obtain ⟨QL, HQL⟩ : ∃ x, Box ((LkM.row t (2 * k + 1)).length = x) := ⟨_, ⟨rfl⟩⟩
      rw [HHL.out] at HHv
      rw [HQL.out] at HQv
      rw [show (LkM.row t (2 * k)).length = HL from HHL.out] at HCa
      rw [show (LkM.row t (2 * k + 1)).length = QL from HQL.out] at HCb
      go_upto_region 9 with (fail)
      obtain ⟨V, HVe⟩ : ∃ V, Box (wr.drew = V) := ⟨_, ⟨rfl⟩⟩
      rw [HVe.out] at HFk HSt HVb
      have HAmV : Box (LkM.AmpT V B t ⟨77, 0⟩ g (2 * k)) := ⟨by rw [← HVe.out]; exact HAm.out.after (Below.refl _ _).drew⟩
      obtain ⟨PV, HPV⟩ : ∃ PV : Nat → Option Value, Box (PV = fun i => ([some (.slice (some ⟨G, 0, none⟩) N uc), some (.int .i64 (k : Int)), some (.slice (some ⟨G, 0, none⟩) N uc), some (.int .i64 (k : Int)), some (.slice (some ⟨G, 0, none⟩) N uc), some (.int .i64 (k : Int)), some (.pointer (some ⟨G, k * 3, none⟩)), some (.pointer (some ⟨G, k * 3 + 1, none⟩)), some (.slice ha HL hc), some (.agg #[.int .i64 77, .int .i64 0]), none, some (.slice (some ⟨G, 0, none⟩) N uc), some (.int .i64 (k : Int)), some (.pointer (some ⟨G, k * 3, none⟩)), some (.pointer (some ⟨G, k * 3 + 2, none⟩)), some (.slice qa QL qc), some (.agg #[.int .i64 77, .int .i64 0]), none, some (.pointer (some ⟨G, k * 3, none⟩)), some (.pointer (some ⟨G, k * 3 + 1, none⟩)), none, some (.pointer (some ⟨G, k * 3, none⟩)), some (.pointer (some ⟨G, k * 3 + 2, none⟩)), none] : List (Option Value)).getD i none) := ⟨_, ⟨rfl⟩⟩
      refine wp_region_dagv (by kernel_rfl) (fun Lf vals wx => (∀ i v, PV i = some v → Lf.getD i false = true → vals i = v) ∧ LkM.AmS V B G uc t (LkM.mixV g t (2 * k) v) k ⟨77, 0⟩ (Lf.getD 10 false) (Lf.getD 17 false) (Lf.getD 20 false) (Lf.getD 23 false) (vals 10) (vals 17) wx) (by kernel_rfl) ?_ ?_ ?_
      · refine ⟨fun i v _ h => absurd h (by simp [Array.getD_eq_getD_getElem?, Array.getElem?_replicate]; try (split <;> simp)), ?_⟩
        simp only [Array.getD_eq_getD_getElem?, Array.getElem?_replicate, List.size_toArray, List.length_cons, List.length_nil, Nat.reduceAdd, Nat.reduceLT, if_true, Option.getD_some]
        rw [HVe.out]
        exact HSt.out _ _
      · intro i hi o ho Lf vals b wx hat haft hL hR
        obtain ⟨hP, hS⟩ := hR
        have hco := hat.const
        have hkeep : ∀ i v, (PV i = some v ∨ PV i = none) → Lf.getD i true = false → (∀ j u, PV j = some u → (Lf.setIfInBounds i true).getD j false = true → Dag.turn vals i v j = u) := fun i v hv hL j u hu hj => by
          by_cases e : j = i
          · subst e; rw [Dag.turn_same]; rcases hv with hv | hv <;> rw [hv] at hu <;> simp at hu; exact hu
          · rw [Dag.turn_other _ _ e]; rw [getD_set_ne false (Ne.symm e)] at hj; exact hP j u hu hj
        have r13 : b.eval (.tmp 13) = .slice (some ⟨G, 0, none⟩) N uc := hat.old 13 (by
          intro j o' hj
          match j with
          | 0 | 1 | 2 | 3 | 4 | 5 | 6 | 7 | 8 | 9 | 10 | 11 | 12 | 13 | 14 | 15 | 16 | 17 | 18 | 19 | 20 | 21 | 22 | 23 => injection hj with hj; subst hj; simp
          | j + 24 => cases hj)
        have r14 : b.eval (.tmp 14) = .int .i64 (k : Int) := hat.old 14 (by
          intro j o' hj
          match j with
          | 0 | 1 | 2 | 3 | 4 | 5 | 6 | 7 | 8 | 9 | 10 | 11 | 12 | 13 | 14 | 15 | 16 | 17 | 18 | 19 | 20 | 21 | 22 | 23 => injection hj with hj; subst hj; simp
          | j + 24 => cases hj)
        have r12 : b.eval (.tmp 12) = .pointer (some ⟨F, 0, none⟩) := hat.old 12 (by
          intro j o' hj
          match j with
          | 0 | 1 | 2 | 3 | 4 | 5 | 6 | 7 | 8 | 9 | 10 | 11 | 12 | 13 | 14 | 15 | 16 | 17 | 18 | 19 | 20 | 21 | 22 | 23 => injection hj with hj; subst hj; simp
          | j + 24 => cases hj)
        have hcx : Lf.getD 20 false = false → wx.cell? ⟨G, k * 3 + 1, none⟩ = some (.slice ha HL hc) := fun h => by
          have hb := (hS.cells hkl).1
          rw [h] at hb
          rw [hb, ← HHv.out]; rfl
        have hcq : Lf.getD 23 false = false → wx.cell? ⟨G, k * 3 + 2, none⟩ = some (.slice qa QL qc) := fun h => by
          have hb := (hS.cells hkl).2
          rw [h] at hb
          rw [hb, ← HQv.out]; rfl
        have hff : wx.cell? ⟨F, 0, none⟩ = some (.int .i64 77) ∧ wx.cell? ⟨F, 1, none⟩ = some (.int .i64 0) ∧ F < wx.heap.size := by
          have hb := HFk.out wx hS.rest
          exact ⟨hb.cell rfl, hb.cell rfl, hb.lt⟩
        match i, hi with
        | 0, _ =>
          injection ho with ho
          subst ho
          refine Dag.yields (w' := wx) (.slice (some ⟨G, 0, none⟩) N uc) ?_ ⟨.slice (some ⟨G, 0, none⟩) N uc, rfl, hkeep 0 _ (Or.inl (by rw [HPV.out]; rfl)) hL, ?_⟩
          · clear hP hS hat haft hkeep hL
            generalize b.eval = ρ at *
            go_simp
          · simp only [getD_set_ne false (show 0 ≠ 10 by decide), getD_set_ne false (show 0 ≠ 17 by decide), getD_set_ne false (show 0 ≠ 20 by decide), getD_set_ne false (show 0 ≠ 23 by decide), Dag.turn_other vals (i := 0) (j := 10) _ (by decide), Dag.turn_other vals (i := 0) (j := 17) _ (by decide)]
            exact hS
        | 1, _ =>
          injection ho with ho
          subst ho
          refine Dag.yields (w' := wx) (.int .i64 (k : Int)) ?_ ⟨.int .i64 (k : Int), rfl, hkeep 1 _ (Or.inl (by rw [HPV.out]; rfl)) hL, ?_⟩
          · clear hP hS hat haft hkeep hL
            generalize b.eval = ρ at *
            go_simp
          · simp only [getD_set_ne false (show 1 ≠ 10 by decide), getD_set_ne false (show 1 ≠ 17 by decide), getD_set_ne false (show 1 ≠ 20 by decide), getD_set_ne false (show 1 ≠ 23 by decide), Dag.turn_other vals (i := 1) (j := 10) _ (by decide), Dag.turn_other vals (i := 1) (j := 17) _ (by decide)]
            exact hS
        | 2, _ =>
          injection ho with ho
          subst ho
          refine Dag.yields (w' := wx) (.slice (some ⟨G, 0, none⟩) N uc) ?_ ⟨.slice (some ⟨G, 0, none⟩) N uc, rfl, hkeep 2 _ (Or.inl (by rw [HPV.out]; rfl)) hL, ?_⟩
          · clear hP hS hat haft hkeep hL
            generalize b.eval = ρ at *
            go_simp
          · simp only [getD_set_ne false (show 2 ≠ 10 by decide), getD_set_ne false (show 2 ≠ 17 by decide), getD_set_ne false (show 2 ≠ 20 by decide), getD_set_ne false (show 2 ≠ 23 by decide), Dag.turn_other vals (i := 2) (j := 10) _ (by decide), Dag.turn_other vals (i := 2) (j := 17) _ (by decide)]
            exact hS
        | 3, _ =>
          injection ho with ho
          subst ho
          refine Dag.yields (w' := wx) (.int .i64 (k : Int)) ?_ ⟨.int .i64 (k : Int), rfl, hkeep 3 _ (Or.inl (by rw [HPV.out]; rfl)) hL, ?_⟩
          · clear hP hS hat haft hkeep hL
            generalize b.eval = ρ at *
            go_simp
          · simp only [getD_set_ne false (show 3 ≠ 10 by decide), getD_set_ne false (show 3 ≠ 17 by decide), getD_set_ne false (show 3 ≠ 20 by decide), getD_set_ne false (show 3 ≠ 23 by decide), Dag.turn_other vals (i := 3) (j := 10) _ (by decide), Dag.turn_other vals (i := 3) (j := 17) _ (by decide)]
            exact hS
        | 4, _ =>
          injection ho with ho
          subst ho
          refine Dag.yields (w' := wx) (.slice (some ⟨G, 0, none⟩) N uc) ?_ ⟨.slice (some ⟨G, 0, none⟩) N uc, rfl, hkeep 4 _ (Or.inl (by rw [HPV.out]; rfl)) hL, ?_⟩
          · clear hP hS hat haft hkeep hL
            generalize b.eval = ρ at *
            go_simp
          · simp only [getD_set_ne false (show 4 ≠ 10 by decide), getD_set_ne false (show 4 ≠ 17 by decide), getD_set_ne false (show 4 ≠ 20 by decide), getD_set_ne false (show 4 ≠ 23 by decide), Dag.turn_other vals (i := 4) (j := 10) _ (by decide), Dag.turn_other vals (i := 4) (j := 17) _ (by decide)]
            exact hS
        | 5, _ =>
          injection ho with ho
          subst ho
          refine Dag.yields (w' := wx) (.int .i64 (k : Int)) ?_ ⟨.int .i64 (k : Int), rfl, hkeep 5 _ (Or.inl (by rw [HPV.out]; rfl)) hL, ?_⟩
          · clear hP hS hat haft hkeep hL
            generalize b.eval = ρ at *
            go_simp
          · simp only [getD_set_ne false (show 5 ≠ 10 by decide), getD_set_ne false (show 5 ≠ 17 by decide), getD_set_ne false (show 5 ≠ 20 by decide), getD_set_ne false (show 5 ≠ 23 by decide), Dag.turn_other vals (i := 5) (j := 10) _ (by decide), Dag.turn_other vals (i := 5) (j := 17) _ (by decide)]
            exact hS
        | 6, _ =>
          injection ho with ho
          subst ho
          have e53 : b.eval (.tmp 53) = .slice (some ⟨G, 0, none⟩) N uc := (hat.new 4 _ 53 (haft ⟨4, .data⟩ (by simp) rfl) rfl rfl).trans (hP 4 _ (by rw [HPV.out]; rfl) (haft ⟨4, .data⟩ (by simp) rfl))
          have e54 : b.eval (.tmp 54) = .int .i64 (k : Int) := (hat.new 5 _ 54 (haft ⟨5, .data⟩ (by simp) rfl) rfl rfl).trans (hP 5 _ (by rw [HPV.out]; rfl) (haft ⟨5, .data⟩ (by simp) rfl))
          refine Dag.yields (w' := wx) (.pointer (some ⟨G, k * 3, none⟩)) ?_ ⟨.pointer (some ⟨G, k * 3, none⟩), rfl, hkeep 6 _ (Or.inl (by rw [HPV.out]; rfl)) hL, ?_⟩
          · clear hP hS hat haft hkeep hL
            generalize b.eval = ρ at *
            go_simp
          · simp only [getD_set_ne false (show 6 ≠ 10 by decide), getD_set_ne false (show 6 ≠ 17 by decide), getD_set_ne false (show 6 ≠ 20 by decide), getD_set_ne false (show 6 ≠ 23 by decide), Dag.turn_other vals (i := 6) (j := 10) _ (by decide), Dag.turn_other vals (i := 6) (j := 17) _ (by decide)]
            exact hS
        | 7, _ =>
          injection ho with ho
          subst ho
          have e55 : b.eval (.tmp 55) = .pointer (some ⟨G, k * 3, none⟩) := (hat.new 6 _ 55 (haft ⟨6, .data⟩ (by simp) rfl) rfl rfl).trans (hP 6 _ (by rw [HPV.out]; rfl) (haft ⟨6, .data⟩ (by simp) rfl))
          refine Dag.yields (w' := wx) (.pointer (some ⟨G, k * 3 + 1, none⟩)) ?_ ⟨.pointer (some ⟨G, k * 3 + 1, none⟩), rfl, hkeep 7 _ (Or.inl (by rw [HPV.out]; rfl)) hL, ?_⟩
          · clear hP hS hat haft hkeep hL
            generalize b.eval = ρ at *
            go_simp
          · simp only [getD_set_ne false (show 7 ≠ 10 by decide), getD_set_ne false (show 7 ≠ 17 by decide), getD_set_ne false (show 7 ≠ 20 by decide), getD_set_ne false (show 7 ≠ 23 by decide), Dag.turn_other vals (i := 7) (j := 10) _ (by decide), Dag.turn_other vals (i := 7) (j := 17) _ (by decide)]
            exact hS
        | 8, _ =>
          injection ho with ho
          subst ho
          have e56 : b.eval (.tmp 56) = .pointer (some ⟨G, k * 3 + 1, none⟩) := (hat.new 7 _ 56 (haft ⟨7, .data⟩ (by simp) rfl) rfl rfl).trans (hP 7 _ (by rw [HPV.out]; rfl) (haft ⟨7, .data⟩ (by simp) rfl))
          have h10 : Lf.getD 10 false = false := by
            cases h : Lf.getD 10 false with
            | false => rfl
            | true => have := hat.closed 10 _ h rfl ⟨8, .data⟩ (by simp) rfl; rw [Dag.off hL] at this; cases this
          have h20 : Lf.getD 20 false = false := by
            cases h : Lf.getD 20 false with
            | false => rfl
            | true => have := hat.closed 20 _ h rfl ⟨10, .data⟩ (by simp) rfl; rw [h10] at this; cases this
          have x1 := hcx h20
          refine Dag.yields (w' := wx) (.slice ha HL hc) ?_ ⟨.slice ha HL hc, rfl, hkeep 8 _ (Or.inl (by rw [HPV.out]; rfl)) hL, ?_⟩
          · clear hP hS hat haft hkeep hL hcx hcq hff
            generalize b.eval = ρ at *
            go_simp
          simp only [getD_set_ne false (show 8 ≠ 10 by decide), getD_set_ne false (show 8 ≠ 17 by decide), getD_set_ne false (show 8 ≠ 20 by decide), getD_set_ne false (show 8 ≠ 23 by decide), Dag.turn_other vals (i := 8) (j := 10) _ (by decide), Dag.turn_other vals (i := 8) (j := 17) _ (by decide)]
          exact hS
        | 9, _ =>
          injection ho with ho
          subst ho
          have hf2 := hff
          obtain ⟨f0, f1, f2⟩ := hf2
          refine Dag.yields (w' := wx) (.agg #[.int .i64 77, .int .i64 0]) ?_ ⟨.agg #[.int .i64 77, .int .i64 0], rfl, hkeep 9 _ (Or.inl (by rw [HPV.out]; rfl)) hL, ?_⟩
          · clear hP hS hat haft hkeep hL hcx hcq hff
            generalize b.eval = ρ at *
            go_simp
          simp only [getD_set_ne false (show 9 ≠ 10 by decide), getD_set_ne false (show 9 ≠ 17 by decide), getD_set_ne false (show 9 ≠ 20 by decide), getD_set_ne false (show 9 ≠ 23 by decide), Dag.turn_other vals (i := 9) (j := 10) _ (by decide), Dag.turn_other vals (i := 9) (j := 17) _ (by decide)]
          exact hS
        | 10, _ =>
          injection ho with ho
          subst ho
          have e57 : b.eval (.tmp 57) = .slice ha HL hc := (hat.new 8 _ 57 (haft ⟨8, .data⟩ (by simp) rfl) rfl rfl).trans (hP 8 _ (by rw [HPV.out]; rfl) (haft ⟨8, .data⟩ (by simp) rfl))
          have e58 : b.eval (.tmp 58) = .agg #[.int .i64 77, .int .i64 0] := (hat.new 9 _ 58 (haft ⟨9, .data⟩ (by simp) rfl) rfl rfl).trans (hP 9 _ (by rw [HPV.out]; rfl) (haft ⟨9, .data⟩ (by simp) rfl))
          have h20 : Lf.getD 20 false = false := by
            cases h : Lf.getD 20 false with
            | false => rfl
            | true => have := hat.closed 20 _ h rfl ⟨10, .data⟩ (by simp) rfl; rw [Dag.off hL] at this; cases this
          rw [Dag.off hL, h20] at hS
          refine Dag.calls (w' := wx) (f := 8) (args := #[.slice ha HL hc, .agg #[.int .i64 77, .int .i64 0]]) ?_ (fun u w'' => ∃ x, u = .slice (some ⟨x, 0, none⟩) (LkM.row t (2 * k)).length ((LkM.row t (2 * k)).length + 3) ∧ wx.heap.size ≤ x ∧ LkAmple w'' wx.heap.size x (LkM.row t (2 * k)) ⟨77, 0⟩ ∧ Below wx.heap.size wx w'') ?_ ?_
          · have ef : b.eval (.func 8) = .func (.func 8) #[] #[] := rfl
            clear hP hS hat haft hkeep hL hcx hcq hff
            generalize b.eval = ρ at *
            go_simp
          · refine (HCa.out wx (HVb.out.trans (hS.below.mono hBV))).mono ?_
            rintro e w'' ⟨⟨x, rfl, h1, _, h2⟩, h3⟩
            exact ⟨_, rfl, x, by rw [HHL.out], h1, h2, h3⟩
          · rintro u w'' ⟨x, rfl, h1, h2, h3⟩
            refine ⟨_, rfl, hkeep 10 _ (Or.inr (by rw [HPV.out]; rfl)) hL, ?_⟩
            rw [Dag.on hL]
            simp only [getD_set_ne false (show 10 ≠ 17 by decide), getD_set_ne false (show 10 ≠ 20 by decide), getD_set_ne false (show 10 ≠ 23 by decide), Dag.turn_same, Dag.turn_other vals (i := 10) (j := 17) _ (by decide)]
            rw [h20]
            exact hS.call10 h1 h2 h3
        | 11, _ =>
          injection ho with ho
          subst ho
          refine Dag.yields (w' := wx) (.slice (some ⟨G, 0, none⟩) N uc) ?_ ⟨.slice (some ⟨G, 0, none⟩) N uc, rfl, hkeep 11 _ (Or.inl (by rw [HPV.out]; rfl)) hL, ?_⟩
          · clear hP hS hat haft hkeep hL
            generalize b.eval = ρ at *
            go_simp
          · simp only [getD_set_ne false (show 11 ≠ 10 by decide), getD_set_ne false (show 11 ≠ 17 by decide), getD_set_ne false (show 11 ≠ 20 by decide), getD_set_ne false (show 11 ≠ 23 by decide), Dag.turn_other vals (i := 11) (j := 10) _ (by decide), Dag.turn_other vals (i := 11) (j := 17) _ (by decide)]
            exact hS
        | 12, _ =>
          injection ho with ho
          subst ho
          refine Dag.yields (w' := wx) (.int .i64 (k : Int)) ?_ ⟨.int .i64 (k : Int), rfl, hkeep 12 _ (Or.inl (by rw [HPV.out]; rfl)) hL, ?_⟩
          · clear hP hS hat haft hkeep hL
            generalize b.eval = ρ at *
            go_simp
          · simp only [getD_set_ne false (show 12 ≠ 10 by decide), getD_set_ne false (show 12 ≠ 17 by decide), getD_set_ne false (show 12 ≠ 20 by decide), getD_set_ne false (show 12 ≠ 23 by decide), Dag.turn_other vals (i := 12) (j := 10) _ (by decide), Dag.turn_other vals (i := 12) (j := 17) _ (by decide)]
            exact hS
        | 13, _ =>
          injection ho with ho
          subst ho
          have e60 : b.eval (.tmp 60) = .slice (some ⟨G, 0, none⟩) N uc := (hat.new 11 _ 60 (haft ⟨11, .data⟩ (by simp) rfl) rfl rfl).trans (hP 11 _ (by rw [HPV.out]; rfl) (haft ⟨11, .data⟩ (by simp) rfl))
          have e61 : b.eval (.tmp 61) = .int .i64 (k : Int) := (hat.new 12 _ 61 (haft ⟨12, .data⟩ (by simp) rfl) rfl rfl).trans (hP 12 _ (by rw [HPV.out]; rfl) (haft ⟨12, .data⟩ (by simp) rfl))
          refine Dag.yields (w' := wx) (.pointer (some ⟨G, k * 3, none⟩)) ?_ ⟨.pointer (some ⟨G, k * 3, none⟩), rfl, hkeep 13 _ (Or.inl (by rw [HPV.out]; rfl)) hL, ?_⟩
          · clear hP hS hat haft hkeep hL
            generalize b.eval = ρ at *
            go_simp
          · simp only [getD_set_ne false (show 13 ≠ 10 by decide), getD_set_ne false (show 13 ≠ 17 by decide), getD_set_ne false (show 13 ≠ 20 by decide), getD_set_ne false (show 13 ≠ 23 by decide), Dag.turn_other vals (i := 13) (j := 10) _ (by decide), Dag.turn_other vals (i := 13) (j := 17) _ (by decide)]
            exact hS
        | 14, _ =>
          injection ho with ho
          subst ho
          have e62 : b.eval (.tmp 62) = .pointer (some ⟨G, k * 3, none⟩) := (hat.new 13 _ 62 (haft ⟨13, .data⟩ (by simp) rfl) rfl rfl).trans (hP 13 _ (by rw [HPV.out]; rfl) (haft ⟨13, .data⟩ (by simp) rfl))
          refine Dag.yields (w' := wx) (.pointer (some ⟨G, k * 3 + 2, none⟩)) ?_ ⟨.pointer (some ⟨G, k * 3 + 2, none⟩), rfl, hkeep 14 _ (Or.inl (by rw [HPV.out]; rfl)) hL, ?_⟩
          · clear hP hS hat haft hkeep hL
            generalize b.eval = ρ at *
            go_simp
          · simp only [getD_set_ne false (show 14 ≠ 10 by decide), getD_set_ne false (show 14 ≠ 17 by decide), getD_set_ne false (show 14 ≠ 20 by decide), getD_set_ne false (show 14 ≠ 23 by decide), Dag.turn_other vals (i := 14) (j := 10) _ (by decide), Dag.turn_other vals (i := 14) (j := 17) _ (by decide)]
            exact hS
        | 15, _ =>
          injection ho with ho
          subst ho
          have e63 : b.eval (.tmp 63) = .pointer (some ⟨G, k * 3 + 2, none⟩) := (hat.new 14 _ 63 (haft ⟨14, .data⟩ (by simp) rfl) rfl rfl).trans (hP 14 _ (by rw [HPV.out]; rfl) (haft ⟨14, .data⟩ (by simp) rfl))
          have h17 : Lf.getD 17 false = false := by
            cases h : Lf.getD 17 false with
            | false => rfl
            | true => have := hat.closed 17 _ h rfl ⟨15, .data⟩ (by simp) rfl; rw [Dag.off hL] at this; cases this
          have h23 : Lf.getD 23 false = false := by
            cases h : Lf.getD 23 false with
            | false => rfl
            | true => have := hat.closed 23 _ h rfl ⟨17, .data⟩ (by simp) rfl; rw [h17] at this; cases this
          have x2 := hcq h23
          refine Dag.yields (w' := wx) (.slice qa QL qc) ?_ ⟨.slice qa QL qc, rfl, hkeep 15 _ (Or.inl (by rw [HPV.out]; rfl)) hL, ?_⟩
          · clear hP hS hat haft hkeep hL hcx hcq hff
            generalize b.eval = ρ at *
            go_simp
          simp only [getD_set_ne false (show 15 ≠ 10 by decide), getD_set_ne false (show 15 ≠ 17 by decide), getD_set_ne false (show 15 ≠ 20 by decide), getD_set_ne false (show 15 ≠ 23 by decide), Dag.turn_other vals (i := 15) (j := 10) _ (by decide), Dag.turn_other vals (i := 15) (j := 17) _ (by decide)]
          exact hS
        | 16, _ =>
          injection ho with ho
          subst ho
          have hf2 := hff
          obtain ⟨f0, f1, f2⟩ := hf2
          refine Dag.yields (w' := wx) (.agg #[.int .i64 77, .int .i64 0]) ?_ ⟨.agg #[.int .i64 77, .int .i64 0], rfl, hkeep 16 _ (Or.inl (by rw [HPV.out]; rfl)) hL, ?_⟩
          · clear hP hS hat haft hkeep hL hcx hcq hff
            generalize b.eval = ρ at *
            go_simp
          simp only [getD_set_ne false (show 16 ≠ 10 by decide), getD_set_ne false (show 16 ≠ 17 by decide), getD_set_ne false (show 16 ≠ 20 by decide), getD_set_ne false (show 16 ≠ 23 by decide), Dag.turn_other vals (i := 16) (j := 10) _ (by decide), Dag.turn_other vals (i := 16) (j := 17) _ (by decide)]
          exact hS
        | 17, _ =>
          injection ho with ho
          subst ho
          have e64 : b.eval (.tmp 64) = .slice qa QL qc := (hat.new 15 _ 64 (haft ⟨15, .data⟩ (by simp) rfl) rfl rfl).trans (hP 15 _ (by rw [HPV.out]; rfl) (haft ⟨15, .data⟩ (by simp) rfl))
          have e65 : b.eval (.tmp 65) = .agg #[.int .i64 77, .int .i64 0] := (hat.new 16 _ 65 (haft ⟨16, .data⟩ (by simp) rfl) rfl rfl).trans (hP 16 _ (by rw [HPV.out]; rfl) (haft ⟨16, .data⟩ (by simp) rfl))
          have h23 : Lf.getD 23 false = false := by
            cases h : Lf.getD 23 false with
            | false => rfl
            | true => have := hat.closed 23 _ h rfl ⟨17, .data⟩ (by simp) rfl; rw [Dag.off hL] at this; cases this
          rw [Dag.off hL, h23] at hS
          refine Dag.calls (w' := wx) (f := 8) (args := #[.slice qa QL qc, .agg #[.int .i64 77, .int .i64 0]]) ?_ (fun u w'' => ∃ x, u = .slice (some ⟨x, 0, none⟩) (LkM.row t (2 * k + 1)).length ((LkM.row t (2 * k + 1)).length + 3) ∧ wx.heap.size ≤ x ∧ LkAmple w'' wx.heap.size x (LkM.row t (2 * k + 1)) ⟨77, 0⟩ ∧ Below wx.heap.size wx w'') ?_ ?_
          · have ef : b.eval (.func 8) = .func (.func 8) #[] #[] := rfl
            clear hP hS hat haft hkeep hL hcx hcq hff
            generalize b.eval = ρ at *
            go_simp
          · refine (HCb.out wx (HVb.out.trans (hS.below.mono hBV))).mono ?_
            rintro e w'' ⟨⟨x, rfl, h1, _, h2⟩, h3⟩
            exact ⟨_, rfl, x, by rw [HQL.out], h1, h2, h3⟩
          · rintro u w'' ⟨x, rfl, h1, h2, h3⟩
            refine ⟨_, rfl, hkeep 17 _ (Or.inr (by rw [HPV.out]; rfl)) hL, ?_⟩
            rw [Dag.on hL]
            simp only [getD_set_ne false (show 17 ≠ 10 by decide), getD_set_ne false (show 17 ≠ 20 by decide), getD_set_ne false (show 17 ≠ 23 by decide), Dag.turn_same, Dag.turn_other vals (i := 17) (j := 10) _ (by decide)]
            rw [h23]
            exact hS.call17 h1 h2 h3
        | 18, _ =>
          injection ho with ho
          subst ho
          have e49 : b.eval (.tmp 49) = .slice (some ⟨G, 0, none⟩) N uc := (hat.new 0 _ 49 (haft ⟨0, .data⟩ (by simp) rfl) rfl rfl).trans (hP 0 _ (by rw [HPV.out]; rfl) (haft ⟨0, .data⟩ (by simp) rfl))
          have e50 : b.eval (.tmp 50) = .int .i64 (k : Int) := (hat.new 1 _ 50 (haft ⟨1, .data⟩ (by simp) rfl) rfl rfl).trans (hP 1 _ (by rw [HPV.out]; rfl) (haft ⟨1, .data⟩ (by simp) rfl))
          refine Dag.yields (w' := wx) (.pointer (some ⟨G, k * 3, none⟩)) ?_ ⟨.pointer (some ⟨G, k * 3, none⟩), rfl, hkeep 18 _ (Or.inl (by rw [HPV.out]; rfl)) hL, ?_⟩
          · clear hP hS hat haft hkeep hL
            generalize b.eval = ρ at *
            go_simp
          · simp only [getD_set_ne false (show 18 ≠ 10 by decide), getD_set_ne false (show 18 ≠ 17 by decide), getD_set_ne false (show 18 ≠ 20 by decide), getD_set_ne false (show 18 ≠ 23 by decide), Dag.turn_other vals (i := 18) (j := 10) _ (by decide), Dag.turn_other vals (i := 18) (j := 17) _ (by decide)]
            exact hS
        | 19, _ =>
          injection ho with ho
          subst ho
          have e67 : b.eval (.tmp 67) = .pointer (some ⟨G, k * 3, none⟩) := (hat.new 18 _ 67 (haft ⟨18, .data⟩ (by simp) rfl) rfl rfl).trans (hP 18 _ (by rw [HPV.out]; rfl) (haft ⟨18, .data⟩ (by simp) rfl))
          refine Dag.yields (w' := wx) (.pointer (some ⟨G, k * 3 + 1, none⟩)) ?_ ⟨.pointer (some ⟨G, k * 3 + 1, none⟩), rfl, hkeep 19 _ (Or.inl (by rw [HPV.out]; rfl)) hL, ?_⟩
          · clear hP hS hat haft hkeep hL
            generalize b.eval = ρ at *
            go_simp
          · simp only [getD_set_ne false (show 19 ≠ 10 by decide), getD_set_ne false (show 19 ≠ 17 by decide), getD_set_ne false (show 19 ≠ 20 by decide), getD_set_ne false (show 19 ≠ 23 by decide), Dag.turn_other vals (i := 19) (j := 10) _ (by decide), Dag.turn_other vals (i := 19) (j := 17) _ (by decide)]
            exact hS
        | 20, _ =>
          injection ho with ho
          subst ho
          have e68 : b.eval (.tmp 68) = .pointer (some ⟨G, k * 3 + 1, none⟩) := (hat.new 19 _ 68 (haft ⟨19, .data⟩ (by simp) rfl) rfl rfl).trans (hP 19 _ (by rw [HPV.out]; rfl) (haft ⟨19, .data⟩ (by simp) rfl))
          have e59 : b.eval (.tmp 59) = vals 10 := hat.new 10 _ 59 (haft ⟨10, .data⟩ (by simp) rfl) rfl rfl
          have l10 : Lf.getD 10 false = true := haft ⟨10, .data⟩ (by simp) rfl
          rw [l10, Dag.off hL] at hS
          obtain ⟨zx, hz, _, _⟩ := hS.c10 rfl
          have xc := (hS.cells hkl).1
          have xz := hS.tab.frozenAt (k * 3 + 1)
          have xs := (World.ownsRow.lt hS.tab G rfl).2
          refine Dag.skips (w' := wx.setCell ⟨G, k * 3 + 1, none⟩ (vals 10)) ?_ ⟨_, rfl, hkeep 20 _ (Or.inr (by rw [HPV.out]; rfl)) hL, ?_⟩
          · clear hP hS hat haft hkeep hL hcx hcq hff
            rw [hz] at e59 ⊢
            generalize b.eval = ρ at *
            go_simp
          rw [Dag.on hL]
          simp only [getD_set_ne false (show 20 ≠ 10 by decide), getD_set_ne false (show 20 ≠ 17 by decide), getD_set_ne false (show 20 ≠ 23 by decide), Dag.turn_other vals (i := 20) (j := 10) _ (by decide), Dag.turn_other vals (i := 20) (j := 17) _ (by decide)]
          rw [l10]
          exact hS.put20 hkl
        | 21, _ =>
          injection ho with ho
          subst ho
          have e51 : b.eval (.tmp 51) = .slice (some ⟨G, 0, none⟩) N uc := (hat.new 2 _ 51 (haft ⟨2, .data⟩ (by simp) rfl) rfl rfl).trans (hP 2 _ (by rw [HPV.out]; rfl) (haft ⟨2, .data⟩ (by simp) rfl))
          have e52 : b.eval (.tmp 52) = .int .i64 (k : Int) := (hat.new 3 _ 52 (haft ⟨3, .data⟩ (by simp) rfl) rfl rfl).trans (hP 3 _ (by rw [HPV.out]; rfl) (haft ⟨3, .data⟩ (by simp) rfl))
          refine Dag.yields (w' := wx) (.pointer (some ⟨G, k * 3, none⟩)) ?_ ⟨.pointer (some ⟨G, k * 3, none⟩), rfl, hkeep 21 _ (Or.inl (by rw [HPV.out]; rfl)) hL, ?_⟩
          · clear hP hS hat haft hkeep hL
            generalize b.eval = ρ at *
            go_simp
          · simp only [getD_set_ne false (show 21 ≠ 10 by decide), getD_set_ne false (show 21 ≠ 17 by decide), getD_set_ne false (show 21 ≠ 20 by decide), getD_set_ne false (show 21 ≠ 23 by decide), Dag.turn_other vals (i := 21) (j := 10) _ (by decide), Dag.turn_other vals (i := 21) (j := 17) _ (by decide)]
            exact hS
        | 22, _ =>
          injection ho with ho
          subst ho
          have e69 : b.eval (.tmp 69) = .pointer (some ⟨G, k * 3, none⟩) := (hat.new 21 _ 69 (haft ⟨21, .data⟩ (by simp) rfl) rfl rfl).trans (hP 21 _ (by rw [HPV.out]; rfl) (haft ⟨21, .data⟩ (by simp) rfl))
          refine Dag.yields (w' := wx) (.pointer (some ⟨G, k * 3 + 2, none⟩)) ?_ ⟨.pointer (some ⟨G, k * 3 + 2, none⟩), rfl, hkeep 22 _ (Or.inl (by rw [HPV.out]; rfl)) hL, ?_⟩
          · clear hP hS hat haft hkeep hL
            generalize b.eval = ρ at *
            go_simp
          · simp only [getD_set_ne false (show 22 ≠ 10 by decide), getD_set_ne false (show 22 ≠ 17 by decide), getD_set_ne false (show 22 ≠ 20 by decide), getD_set_ne false (show 22 ≠ 23 by decide), Dag.turn_other vals (i := 22) (j := 10) _ (by decide), Dag.turn_other vals (i := 22) (j := 17) _ (by decide)]
            exact hS
        | 23, _ =>
          injection ho with ho
          subst ho
          have e70 : b.eval (.tmp 70) = .pointer (some ⟨G, k * 3 + 2, none⟩) := (hat.new 22 _ 70 (haft ⟨22, .data⟩ (by simp) rfl) rfl rfl).trans (hP 22 _ (by rw [HPV.out]; rfl) (haft ⟨22, .data⟩ (by simp) rfl))
          have e66 : b.eval (.tmp 66) = vals 17 := hat.new 17 _ 66 (haft ⟨17, .data⟩ (by simp) rfl) rfl rfl
          have l17 : Lf.getD 17 false = true := haft ⟨17, .data⟩ (by simp) rfl
          rw [l17, Dag.off hL] at hS
          obtain ⟨zx, hz, _, _⟩ := hS.c17 rfl
          have xc := (hS.cells hkl).2
          have xz := hS.tab.frozenAt (k * 3 + 2)
          have xs := (World.ownsRow.lt hS.tab G rfl).2
          refine Dag.skips (w' := wx.setCell ⟨G, k * 3 + 2, none⟩ (vals 17)) ?_ ⟨_, rfl, hkeep 23 _ (Or.inr (by rw [HPV.out]; rfl)) hL, ?_⟩
          · clear hP hS hat haft hkeep hL hcx hcq hff
            rw [hz] at e66 ⊢
            generalize b.eval = ρ at *
            go_simp
          rw [Dag.on hL]
          simp only [getD_set_ne false (show 23 ≠ 10 by decide), getD_set_ne false (show 23 ≠ 17 by decide), getD_set_ne false (show 23 ≠ 20 by decide), Dag.turn_other vals (i := 23) (j := 10) _ (by decide), Dag.turn_other vals (i := 23) (j := 17) _ (by decide)]
          rw [l17]
          exact hS.put23 hkl
        | i + 24, h => exact absurd h (by simp)
      · intro Lf vals wx hall hR
        obtain ⟨hP, hS⟩ := hR
        simp only [hall 10 (by simp), hall 17 (by simp), hall 20 (by simp), hall 23 (by simp)] at hS
        obtain ⟨g', hA', hG', hT'⟩ := hS.fin HAmV.out HGn.out
        have HF : Box (LkM.OwnS w B F t v (some ⟨G, 0, none⟩) uc g' (2 * (k + 1)) wx) := ⟨HVb.out.trans (hS.below.mono hBV), HFk.out wx hS.rest, hA', Or.inr ⟨G, rfl, hG', hS.g.2, hT'⟩⟩
        simp only [Dag.all, List.size_toArray, List.length_cons, List.length_nil, Nat.reduceAdd, List.getElem?_toArray, List.getElem?_cons_zero, List.getElem?_cons_succ, Option.bind_some]
        clear hP hS hall hA' hG' hT'
        go_wp2_with fail
        go_roundw
        case rel => exact ⟨k + 1, g', by omega, by go_num, HF⟩
        case measure => simp [RowKit.intOf]; omega
    · obtain rfl : N = k := by omega
      have HR1 : Box (LkM.OwnS w B F t v ua uc g (2 * t.length) wr) := ⟨by rw [HN.out]; exact HR.out⟩
      have HLt : Box (∀ i, i < 2 * t.length → g i < wr.heap.size) := ⟨fun i hi => (HR1.out.amp.lt hi).2⟩
      have dk : decide (N < N) = false := by simp
      clear HR
      go_wp2_with fail
      clear dk
      have hq := ask_o t ua uc B tx item mode wr HR1.out.lis HSm.out
      rw [HN.out] at hq
      refine hq.mono ?_
      clear hq
      rintro e w5 ⟨hb5, aa, ac, ab, ae, rfl, hla⟩
      obtain ⟨ra, HRa⟩ : ∃ x, Box (LkM.askR t tx item mode = x) := ⟨_, ⟨rfl⟩⟩
      have HRas : Box (LkM.Small ra) := ⟨by rw [← HRa.out]; exact LkM.askR_small _ _ _ _⟩
      rw [HRa.out] at hla ⊢
      obtain ⟨RL, HRL⟩ : ∃ x, Box (ra.length = x) := ⟨_, ⟨rfl⟩⟩
      rw [HRL.out]
      obtain ⟨LA, HLAe⟩ : ∃ x, Box (wr.heap.size = x) := ⟨_, ⟨rfl⟩⟩
      have H5 : Box (LkM.OwnS w B F t v ua uc g (2 * t.length) w5 ∧ LisIn w5 LA aa ra ∧ LA ≤ w5.heap.size) := ⟨HR1.out.after hb5, by rw [← HLAe.out]; exact hla, by rw [← HLAe.out]; exact hb5.size⟩
      rw [HLAe.out] at HLt
      clear hb5 hla HR1
      go_wp2_with fail
      have hq := drop_o t ua uc B tx w5 H5.out.1.lis HSm.out
      rw [HN.out] at hq
      refine hq.mono ?_
      clear hq
      rintro e w6 ⟨hb6, ba, bc, ga, gl, gc, be, rfl, hlb⟩
      obtain ⟨rb, HRb⟩ : ∃ x, Box (LkM.dropL t tx = x) := ⟨_, ⟨rfl⟩⟩
      have HRbs : Box (LkM.Small rb) := ⟨by rw [← HRb.out]; exact LkM.dropL_small _ _⟩
      rw [HRb.out] at hlb ⊢
      obtain ⟨SL, HSL⟩ : ∃ x, Box (rb.length = x) := ⟨_, ⟨rfl⟩⟩
      rw [HSL.out]
      have H6 : Box (LkM.OwnS w B F t v ua uc g (2 * t.length) w6 ∧ LisIn w6 LA aa ra ∧ LisIn w6 LA ba rb ∧ LA ≤ w6.heap.size) := ⟨H5.out.1.after hb6, H5.out.2.1.below hb6 (Nat.le_refl _), hlb.mono H5.out.2.2, by have := H5.out.2.2; have := hb6.size; omega⟩
      clear hb6 hlb H5
      go_wp2_with fail
      have hq := waits_o t ua uc B w6 H6.out.1.lis HSm.out
      rw [HN.out] at hq
      refine hq.mono ?_
      clear hq
      rintro e w7 ⟨hb7, vw, rfl⟩
      have H7 : Box (LkM.OwnS w B F t v ua uc g (2 * t.length) w7 ∧ LisIn w7 LA aa ra ∧ LisIn w7 LA ba rb ∧ LA ≤ w7.heap.size) := ⟨H6.out.1.after hb7, H6.out.2.1.below hb7 (Nat.le_refl _), H6.out.2.2.1.below hb7 (Nat.le_refl _), by have := H6.out.2.2.2; have := hb7.size; omega⟩
      clear hb7 H6
      go_wp2_with fail
      go_loopw [92] (fun t92 wr => ∃ i : Nat, i ≤ N ∧ t92 = .int .i64 (i : Int) ∧ Box (LkM.OwnS w B F t v ua uc g (2 * t.length) wr ∧ LisIn wr LA aa ra ∧ LisIn wr LA ba rb ∧ LA ≤ wr.heap.size)) (fun t92 _ => N - (RowKit.intOf t92).toNat)
      case atStart => exact ⟨0, Nat.zero_le _, rfl, H7⟩
      case round =>
        obtain ⟨i, hi, rfl, HR⟩ := hrel
        clear H7
        by_cases hiN : i < N
        · have hil : i < t.length := by rw [HN.out]; exact hiN
          obtain ⟨G, rfl, hGn, hBG, htab⟩ := HR.out.1.tab.resolve_left (by intro h; rw [h] at hil; simp at hil)
          have hbw : Below w.heap.size w wr := HR.out.1.below
          obtain ⟨b, off, rfl, hb, hrow⟩ := (H.out.below hbw).cells.resolve_left (by intro h; rw [h] at hil; simp at hil)
          obtain ⟨_, hc1, hc2⟩ := hrow i hil
          obtain ⟨_, ht1, ht2⟩ := LkM.tab_cells htab hil
          obtain ⟨ha, hc, hv, hat, _, hal⟩ := (H.out.below hbw).rows (2 * i) (by omega)
          obtain ⟨qa, qc, qv, qat, _, qal⟩ := (H.out.below hbw).rows (2 * i + 1) (by omega)
          rw [hv] at hc1
          rw [qv] at hc2
          rw [LkM.mixV_low _ _ _ (by omega)] at ht1 ht2
          unfold LkM.ampV at ht1 ht2
          have HA1 := box (HR.out.1.amp.own (2 * i) (by omega))
          have HA2 := box (HR.out.1.amp.own (2 * i + 1) (by omega))
          have hF0 := HR.out.1.fill.cell (i := 0) rfl
          have hF1 := HR.out.1.fill.cell (i := 1) rfl
          have hFl := HR.out.1.fill.lt
          have hGl := (World.ownsRow.lt htab G rfl).2
          have HS1 := box (fun (wx : World) (hb : Below wr.heap.size wr wx) => staysLk_any (LkM.row t (2 * i)) ⟨77, 0⟩ ha hc (g (2 * i)) B wx (hat.below hb (Nat.le_refl _)) (HA1.out.after hb) (by omega))
          have HS2 := box (fun (wx : World) (hb : Below wr.heap.size wr wx) => staysLk_any (LkM.row t (2 * i + 1)) ⟨77, 0⟩ qa qc (g (2 * i + 1)) B wx (qat.below hb (Nat.le_refl _)) (HA2.out.after hb) (by omega))
          obtain ⟨HL, HHL⟩ : ∃ x, Box ((LkM.row t (2 * i)).length = x) := ⟨_, ⟨rfl⟩⟩
          obtain ⟨QL, HQL⟩ : ∃ x, Box ((LkM.row t (2 * i + 1)).length = x) := ⟨_, ⟨rfl⟩⟩
          rw [HHL.out] at hc1 ht1 HS1
          rw [HQL.out] at hc2 ht2 HS2
          obtain ⟨x1, Hx1⟩ : ∃ x, Box (g (2 * i) = x) := ⟨_, ⟨rfl⟩⟩
          obtain ⟨x2, Hx2⟩ : ∃ x, Box (g (2 * i + 1) = x) := ⟨_, ⟨rfl⟩⟩
          rw [Hx1.out] at ht1 HS1
          rw [Hx2.out] at ht2 HS2
          have HSx : Box (∀ wx : World, Below wr.heap.size wr wx → wx.cell? ⟨G, i * 3 + 1, none⟩ = some (.slice (some ⟨x1, 0, none⟩) HL (HL + 3)) ∧ wx.cell? ⟨G, i * 3 + 2, none⟩ = some (.slice (some ⟨x2, 0, none⟩) QL (QL + 3)) ∧ wx.cell? ⟨b, off + i * 3 + 1, none⟩ = some (.slice ha HL hc) ∧ wx.cell? ⟨b, off + i * 3 + 2, none⟩ = some (.slice qa QL qc) ∧ wx.cell? ⟨F, 0, none⟩ = some (.int .i64 77) ∧ wx.cell? ⟨F, 1, none⟩ = some (.int .i64 0)) := ⟨fun wx hb' => ⟨(hb'.cell (p := ⟨G, i * 3 + 1, none⟩) hGl).trans ht1, (hb'.cell (p := ⟨G, i * 3 + 2, none⟩) hGl).trans ht2, (hb'.cell (p := ⟨b, off + i * 3 + 1, none⟩) hb).trans hc1, (hb'.cell (p := ⟨b, off + i * 3 + 2, none⟩) hb).trans hc2, (hb'.cell (p := ⟨F, 0, none⟩) hFl).trans hF0, (hb'.cell (p := ⟨F, 1, none⟩) hFl).trans hF1⟩⟩
          have HKp : Box (∀ wx : World, Below wr.heap.size wr wx → LkM.OwnS w B F t v (some ⟨G, 0, none⟩) uc g (2 * t.length) wx ∧ LisIn wx LA aa ra ∧ LisIn wx LA ba rb ∧ LA ≤ wx.heap.size) := ⟨fun wx hb' => ⟨HR.out.1.after hb', HR.out.2.1.below hb' (Nat.le_refl _), HR.out.2.2.1.below hb' (Nat.le_refl _), Nat.le_trans HR.out.2.2.2 hb'.size⟩⟩
          have hii : (i : Int) < (N : Int) := by omega
          have hrow' := hrow
          clear hrow hrow' hat qat hv qv hal qal htab hbw hGn HR
          go_upto_region 17 with (fail)
          go_region_held3 (fun w' => w'.cell? ⟨G, i * 3 + 1, none⟩ = some (.slice (some ⟨x1, 0, none⟩) HL (HL + 3)) ∧ w'.cell? ⟨G, i * 3 + 2, none⟩ = some (.slice (some ⟨x2, 0, none⟩) QL (QL + 3)) ∧ w'.cell? ⟨b, off + i * 3 + 1, none⟩ = some (.slice ha HL hc) ∧ w'.cell? ⟨b, off + i * 3 + 2, none⟩ = some (.slice qa QL qc) ∧ w'.cell? ⟨F, 0, none⟩ = some (.int .i64 77) ∧ w'.cell? ⟨F, 1, none⟩ = some (.int .i64 0)) (first | exact HSx.out _ (Below.refl _ _) | exact HSx.out _ (Below.refl _ _).drew | assumption | exact HSx.out _ HX2.out | exact HSx.out _ HX1.out) (first
            | (go_at_call 11; have _q := HX1; refine (HS2.out _ (by first | exact HX1.out | exact HX1.out.drew)).mono ?_; rintro e w9 ⟨rfl, hb9⟩; have HX2 : Box (Below wr.heap.size wr w9) := ⟨by first | exact below_tr HX1.out hb9 | exact below_tr HX1.out.drew hb9⟩; have hz9 := HX2.out.size; clear hb9)
            | (go_at_call 11; refine (HS1.out _ (by first | exact Below.refl _ _ | exact (Below.refl _ _).drew)).mono ?_; rintro e w8 ⟨rfl, hb8⟩; have HX1 : Box (Below wr.heap.size wr w8) := ⟨by first | exact hb8 | exact below_tr (Below.refl _ _).drew hb8⟩; have hz8 := HX1.out.size; clear hb8)
            | fail)
          have HE := box (HKp.out w9 HX2.out)
          clear HKp HSx HS1 HS2 HX1 HX2
          go_wp2_with fail
          go_roundw
          case rel => exact ⟨i + 1, by omega, by go_num, HE⟩
          case measure => simp [RowKit.intOf]; omega
        · obtain rfl : N = i := by omega
          have di : decide (N < N) = false := by simp
          go_wp2_with fail
          clear di
          have hq := ask_o t ua uc B tx item mode wr HR.out.1.lis HSm.out
          rw [HN.out] at hq
          have hq' := hq
          clear hq'
          refine hq.mono ?_
          clear hq
          unfold LkM.AskO
          rintro e w8 ⟨hb8, xa, xc, xb, xe, rfl, hlx⟩
          rw [HRa.out] at hlx ⊢
          rw [HRL.out]
          have H8 : Box (LkM.OwnS w B F t v ua uc g (2 * t.length) w8 ∧ LisIn w8 LA aa ra ∧ LisIn w8 LA ba rb ∧ LisIn w8 LA xa ra ∧ LA ≤ w8.heap.size) := ⟨HR.out.1.after hb8, HR.out.2.1.below hb8 (Nat.le_refl _), HR.out.2.2.1.below hb8 (Nat.le_refl _), hlx.mono HR.out.2.2.2, by have := HR.out.2.2.2; have := hb8.size; omega⟩
          clear hb8 hlx HR
          go_wp2_with fail
          have hq := drop_o t ua uc B tx w8 H8.out.1.lis HSm.out
          rw [HN.out] at hq
          refine hq.mono ?_
          clear hq
          unfold LkM.DropO
          rintro e w9 ⟨hb9, ya, yc, gy, gyl, gyc, ye, rfl, hly⟩
          rw [HRb.out] at hly ⊢
          rw [HSL.out]
          have H9 : Box (((t = [] ∧ Below w.heap.size w w9) ∨ ∃ G, ua = some ⟨G, 0, none⟩ ∧ LkM.SpS w B F t v G uc g LA (2 * 0) w9) ∧ LisIn w9 LA aa ra ∧ LisIn w9 LA ba rb ∧ LisIn w9 LA xa ra ∧ LisIn w9 LA ya rb) := ⟨by
            have h9 := H8.out.1.after hb9
            refine ⟨?_, H8.out.2.1.below hb9 (Nat.le_refl _), H8.out.2.2.1.below hb9 (Nat.le_refl _), H8.out.2.2.2.1.below hb9 (Nat.le_refl _), hly.mono H8.out.2.2.2.2⟩
            rcases h9.tab with h1 | ⟨G, h1, h2, h3, h4⟩
            · exact Or.inl ⟨h1, h9.below⟩
            · exact Or.inr ⟨G, h1, h9.below, h9.fill, fun i _ hi => h9.amp.own i hi, h9.amp.apart, fun i hi => ⟨(h9.amp.lt hi).1, HLt.out i hi, h2 i hi⟩, h4, by have := H8.out.2.2.2.2; have := hb9.size; omega⟩⟩
          clear hb9 hly H8
          go_wp2_with fail
          go_loopw [142] (fun t142 wr => ∃ i : Nat, i ≤ N ∧ t142 = .int .i64 (i : Int) ∧ Box (((t = [] ∧ Below w.heap.size w wr) ∨ ∃ G, ua = some ⟨G, 0, none⟩ ∧ LkM.SpS w B F t v G uc g LA (2 * i) wr) ∧ LisIn wr LA aa ra ∧ LisIn wr LA ba rb ∧ LisIn wr LA xa ra ∧ LisIn wr LA ya rb)) (fun t142 _ => N - (RowKit.intOf t142).toNat)
          case atStart => exact ⟨0, Nat.zero_le _, rfl, H9⟩
          case round =>
            obtain ⟨i, hi, rfl, HR⟩ := hrel
            clear H9
            by_cases hiN : i < N
            · have hil : i < t.length := by rw [HN.out]; exact hiN
              have h2i : 2 * i < 2 * t.length := by omega
              have h2i1 : 2 * i + 1 < 2 * t.length := by omega
              obtain ⟨G, rfl, hsp⟩ := HR.out.1.resolve_left (by rintro ⟨h, _⟩; rw [h] at hil; simp at hil)
              have HSp := box hsp
              obtain ⟨x1, Hx1⟩ : ∃ x, Box (g (2 * i) = x) := ⟨_, ⟨rfl⟩⟩
              obtain ⟨x2, Hx2⟩ : ∃ x, Box (g (2 * i + 1) = x) := ⟨_, ⟨rfl⟩⟩
              obtain ⟨HL, HHL⟩ : ∃ x, Box ((LkM.row t (2 * i)).length = x) := ⟨_, ⟨rfl⟩⟩
              obtain ⟨QL, HQL⟩ : ∃ x, Box ((LkM.row t (2 * i + 1)).length = x) := ⟨_, ⟨rfl⟩⟩
              have HCs : Box (∀ (wx : World) (K : Nat), LkM.SpS w B F t v G uc g LA K wx → wx.cell? ⟨G, i * 3 + 1, none⟩ = some (.slice (some ⟨x1, 0, none⟩) HL (HL + 3)) ∧ wx.cell? ⟨G, i * 3 + 2, none⟩ = some (.slice (some ⟨x2, 0, none⟩) QL (QL + 3)) ∧ wx.cell? ⟨F, 0, none⟩ = some (.int .i64 77) ∧ wx.cell? ⟨F, 1, none⟩ = some (.int .i64 0) ∧ G < wx.heap.size ∧ F < wx.heap.size) := ⟨fun wx K h => by
                obtain ⟨_, ht1, ht2⟩ := LkM.tab_cells h.tab hil
                rw [LkM.mixV_low _ _ _ (by omega)] at ht1 ht2
                unfold LkM.ampV at ht1 ht2
                rw [HHL.out, Hx1.out] at ht1
                rw [HQL.out, Hx2.out] at ht2
                exact ⟨ht1, ht2, h.fill.cell rfl, h.fill.cell rfl, (World.ownsRow.lt h.tab G rfl).2, h.fill.lt⟩⟩
              have HSpo : Box (∀ (wx : World) (x n : Nat) (l : List LkM), LkAmple wx B x l ⟨77, 0⟩ → l.length = n → Calls Try.prog 12 #[.slice (some ⟨x, 0, none⟩) n (n + 3), .agg #[.int .i64 77, .int .i64 0]] wx (SpoilPost2 wx x)) := ⟨fun wx x n l h e => by
                subst e
                exact spoilLk_any B x l.length (l.length + 3) ⟨77, 0⟩ _ wx (row_front h (Nat.le_add_right _ _)) (by omega)⟩
              have HLi : Box (LisIn wr LA aa ra ∧ LisIn wr LA ba rb ∧ LisIn wr LA xa ra ∧ LisIn wr LA ya rb) := ⟨HR.out.2⟩
              have hii : (i : Int) < (N : Int) := by omega
              obtain ⟨s1, s2, s3, s4, s5, s6⟩ := HCs.out wr _ hsp
              clear hsp HR
              go_upto_region 25 with (fail)
              go_region_held3 (fun w' => w'.cell? ⟨G, i * 3 + 1, none⟩ = some (.slice (some ⟨x1, 0, none⟩) HL (HL + 3)) ∧ w'.cell? ⟨F, 0, none⟩ = some (.int .i64 77) ∧ w'.cell? ⟨F, 1, none⟩ = some (.int .i64 0)) (first | exact ⟨s1, s3, s4⟩ | assumption | exact ⟨y1, y3, y4⟩) (first
                | (go_at_call 12; refine (HSpo.out wr.drew x1 HL (LkM.row t (2 * i)) (by have := HSp.out.rows (2 * i) (Nat.le_refl _) h2i; rw [Hx1.out] at this; exact this.after (Below.refl _ _).drew) HHL.out).mono ?_; rintro e w8 ⟨rfl, hg8⟩; have HG8 := box hg8; clear hg8; have HSp8 : Box (LkM.SpS w B F t v G uc g LA (2 * i + 1) w8) := ⟨(HSp.out.after (Below.refl _ _).drew).spoil h2i hFltB hBV (by rw [Hx1.out]; exact HG8.out)⟩; obtain ⟨y1, y2, y3, y4, y5, y6⟩ := HCs.out w8 _ HSp8.out)
                | fail)
              have HLi8 : Box (LisIn w8 LA aa ra ∧ LisIn w8 LA ba rb ∧ LisIn w8 LA xa ra ∧ LisIn w8 LA ya rb) := ⟨by
                have hS := HSp.out.after (Below.refl wr.heap.size wr).drew
                have hgr : wr.drew.grownBy w8 (some (g (2 * i))) := by rw [Hx1.out]; exact HG8.out
                exact ⟨hS.lis h2i hgr (HLi.out.1.below (Below.refl _ _).drew (Nat.le_refl _)) (Nat.le_refl _), hS.lis h2i hgr (HLi.out.2.1.below (Below.refl _ _).drew (Nat.le_refl _)) (Nat.le_refl _), hS.lis h2i hgr (HLi.out.2.2.1.below (Below.refl _ _).drew (Nat.le_refl _)) (Nat.le_refl _), hS.lis h2i hgr (HLi.out.2.2.2.below (Below.refl _ _).drew (Nat.le_refl _)) (Nat.le_refl _)⟩⟩
              clear s1 s2 s3 s4 s5 s6 HSp HLi HG8
              go_upto_region 26 with (fail)
              go_region_held3 (fun w' => w'.cell? ⟨G, i * 3 + 2, none⟩ = some (.slice (some ⟨x2, 0, none⟩) QL (QL + 3)) ∧ w'.cell? ⟨F, 0, none⟩ = some (.int .i64 77) ∧ w'.cell? ⟨F, 1, none⟩ = some (.int .i64 0)) (first | exact ⟨y2, y3, y4⟩ | assumption | exact ⟨z2, z3, z4⟩) (first
                | (go_at_call 12; refine (HSpo.out w8.drew x2 QL (LkM.row t (2 * i + 1)) (by have := HSp8.out.rows (2 * i + 1) (Nat.le_refl _) h2i1; rw [Hx2.out] at this; exact this.after (Below.refl _ _).drew) HQL.out).mono ?_; rintro e w9 ⟨rfl, hg9⟩; have HG9 := box hg9; clear hg9; have HSp9 : Box (LkM.SpS w B F t v G uc g LA (2 * i + 1 + 1) w9) := ⟨(HSp8.out.after (Below.refl _ _).drew).spoil h2i1 hFltB hBV (by rw [Hx2.out]; exact HG9.out)⟩; obtain ⟨z1, z2, z3, z4, z5, z6⟩ := HCs.out w9 _ HSp9.out)
                | fail)
              have HE : Box (((t = [] ∧ Below w.heap.size w w9) ∨ ∃ G', (some ⟨G, 0, none⟩ : Option Addr) = some ⟨G', 0, none⟩ ∧ LkM.SpS w B F t v G' uc g LA (2 * (i + 1)) w9) ∧ LisIn w9 LA aa ra ∧ LisIn w9 LA ba rb ∧ LisIn w9 LA xa ra ∧ LisIn w9 LA ya rb) := ⟨by
                have hS := HSp8.out.after (Below.refl w8.heap.size w8).drew
                have hgr : w8.drew.grownBy w9 (some (g (2 * i + 1))) := by rw [Hx2.out]; exact HG9.out
                exact ⟨Or.inr ⟨G, rfl, HSp9.out⟩, hS.lis h2i1 hgr (HLi8.out.1.below (Below.refl _ _).drew (Nat.le_refl _)) (Nat.le_refl _), hS.lis h2i1 hgr (HLi8.out.2.1.below (Below.refl _ _).drew (Nat.le_refl _)) (Nat.le_refl _), hS.lis h2i1 hgr (HLi8.out.2.2.1.below (Below.refl _ _).drew (Nat.le_refl _)) (Nat.le_refl _), hS.lis h2i1 hgr (HLi8.out.2.2.2.below (Below.refl _ _).drew (Nat.le_refl _)) (Nat.le_refl _)⟩⟩
              clear HSp8 HSp9 HLi8 HG9 HSpo HCs
              go_wp2_with fail
              go_roundw
              case rel => exact ⟨i + 1, by omega, by go_num, HE⟩
              case measure => simp [RowKit.intOf]; omega
            · obtain rfl : N = i := by omega
              have di : decide (N < N) = false := by simp
              have HBw : Box (Below w.heap.size w wr) := ⟨by
                rcases HR.out.1 with ⟨_, h⟩ | ⟨G, _, h⟩
                · exact h
                · exact h.below⟩
              have HLi : Box (LisIn wr LA aa ra ∧ LisIn wr LA ba rb ∧ LisIn wr LA xa ra ∧ LisIn wr LA ya rb) := ⟨HR.out.2⟩
              clear HR
              go_wp2_with fail
              clear di
              have hq := sameLocks_same ra aa xa ac xc LA LA wr HLi.out.1 HLi.out.2.2.1 HRas.out
              rw [HRL.out] at hq
              refine hq.mono ?_
              clear hq
              rintro e w10 ⟨rfl, hb10⟩
              have HE := box (HBw.out.trans (hb10.mono HBw.out.size))
              have HL2 : Box (LisIn w10 LA ba rb ∧ LisIn w10 LA ya rb) := ⟨HLi.out.2.1.below hb10 (Nat.le_refl _), HLi.out.2.2.2.below hb10 (Nat.le_refl _)⟩
              clear hb10 HLi HBw
              go_wp2_with fail
              have hq := sameLocks_same rb ba ya bc yc LA LA w10 HL2.out.1 HL2.out.2 HRbs.out
              rw [HSL.out] at hq
              refine hq.mono ?_
              clear hq
              rintro e w11 ⟨rfl, hb11⟩
              have HE2 := box (HE.out.trans (hb11.mono HE.out.size))
              clear hb11 HE
              go_wp2_with fail
              go_ret
              exact ⟨rfl, HE2.out⟩
end Go.Proofs.Ytjbmkhalmmahkaa
