/- graph.Parts: what it answers. -/
import Derived.Test.YtgkclgmekbgjmaaTjS
import Derived.Deep.RegionLaw
namespace Go.Proofs.Ytgkclgmekbgjmaa
open Go.RowKit Go.Lib

/-- The parts of a graph: nodes of one come to each other. -/
structure TjM.IsParts (n : Nat) (l : List EgM) (P : List (List Nat)) : Prop where
  nd : P.flatten.Nodup
  mem : ∀ x, x ∈ P.flatten ↔ x < n
  scc : ∀ p ∈ P, p ≠ [] ∧ p.Pairwise (· < ·) ∧ ∀ a ∈ p, ∀ b, b < n → (b ∈ p ↔ TjM.R n l a b ∧ TjM.R n l b a)
theorem TjM.flat_apart : ∀ (L : List (List Nat)), L.flatten.Nodup → ∀ i j (hi : i < L.length) (hj : j < L.length), i < j → ∀ x ∈ L[i], x ∉ L[j]
  | [], _, i, _, hi, _, _, _, _ => by simp at hi
  | p :: r, h, i, j, hi, hj, hij, x, hx => by
    rw [List.flatten_cons, List.nodup_append] at h
    cases j with
    | zero => omega
    | succ j =>
      cases i with
      | zero => exact fun h2 => h.2.2 x hx x (List.mem_flatten.2 ⟨_, List.getElem_mem (by simpa using hj), h2⟩) rfl
      | succ i => exact TjM.flat_apart r h.2.1 i j (by simpa using hi) (by simpa using hj) (by omega) x hx
theorem TjM.flat_one {L : List (List Nat)} (h : L.flatten.Nodup) {i j : Nat} (hi : i < L.length) (hj : j < L.length) {x : Nat} (h1 : x ∈ L[i]) (h2 : x ∈ L[j]) : i = j := by
  rcases Nat.lt_trichotomy i j with h3 | h3 | h3
  · exact absurd h2 (TjM.flat_apart L h i j hi hj h3 x h1)
  · exact h3
  · exact absurd h1 (TjM.flat_apart L h j i hj hi h3 x h2)
theorem TjM.all {n : Nat} {l : List EgM} {s : TjSt} (h : TjM.Inv n l [] s) (ha : ∀ x, x < n → s.when x ≠ 0) : TjM.IsParts n l s.parts := by
  have hst : s.stack = [] := by
    cases hs : s.stack with
    | nil => rfl
    | cons a r =>
      obtain ⟨g, hg, _⟩ := h.dn a (by rw [hs]; exact List.mem_cons_self)
      cases hg
  refine ⟨h.nd, fun x => ?_, h.scc⟩
  rw [h.pm, hst]
  exact ⟨fun h2 => h.vis x h2.1, fun h2 => ⟨ha x h2, by simp⟩⟩
theorem TjM.IsParts.perm {n : Nat} {l : List EgM} {P Q : List (List Nat)} (h : TjM.IsParts n l P) (hp : Q.Perm P) : TjM.IsParts n l Q :=
  ⟨hp.flatten.nodup_iff.2 h.nd, fun x => hp.flatten.mem_iff.trans (h.mem x), fun p hpq => h.scc p (hp.mem_iff.1 hpq)⟩
theorem TjM.IsParts.len {n : Nat} {l : List EgM} {P : List (List Nat)} (h : TjM.IsParts n l P) : P.length ≤ n := by
  have h1 := TjM.flat_len P (fun p hp => (h.scc p hp).1)
  have h2 := List.Nodup.length_le_of_subset h.nd (l₂ := List.range n) (fun x hx => List.mem_range.2 ((h.mem x).1 hx))
  rw [List.length_range] at h2; omega
/-- What Parts answers. -/
def TjM.PartsPost (n : Int) (l : List EgM) (w : World) (e : Ending) (w' : World) : Prop :=
  Below w.heap.size w w' ∧ ((GrM.check n l ≠ 0 ∧ e = .returned (.tuple #[.slice none 0 0, .int .i64 (GrM.check n l)])) ∨
    (GrM.check n l = 0 ∧ ∃ P v pv, e = .returned (.tuple #[pv, .int .i64 0]) ∧ TjM.IsParts n.toNat l P ∧ (P.Pairwise fun p q => p[0]! < q[0]!) ∧ w'.ownsRow w.heap.size 31 1 pv P.length ((List.range P.length).map v) ∧
      ∀ i (h : i < P.length), w'.ownsRow w.heap.size 3 1 (v i) (P[i]).length (intVals (GrM.ints P[i]))))

/-- The walker as it begins. -/
structure TjStart (n : Nat) (l : List EgM) (w wx : World) (O A B W : Nat) (a : Nat → Option Addr) (c : Nat → Nat) : Prop where
  below : Below w.heap.size w wx
  blk : Blk wx W 116 (TjM.cells n O A B (.slice none 0 0) (.slice none 0 0) 0)
  wt : ITab wx A n (fun _ => 0)
  lt : ITab wx B n (fun _ => 0)
  fix_ : TjFix n l w wx O A B W wx.heap.size a c
theorem TjStart.mk' {n : Nat} {l : List EgM} {w wx wc : World} {O A B W bs : Nat} {v : Nat → Value} (hb : Below w.heap.size w wx) (hA : Blk wx A 3 (Tab n (fun _ => Value.int .i64 0))) (hB : Blk wx B 3 (Tab n (fun _ => Value.int .i64 0)))
    (hR : GrM.Rows wc bs O n v (fun i => GrM.ints (GrM.next n l i))) (hle : Below wc.heap.size wc wx)
    (hW : Blk wx W 116 (TjM.cells n O A B (.slice none 0 0) (.slice none 0 0) 0))
    (h1 : (A < bs ∨ wc.heap.size ≤ A) ∧ (B < bs ∨ wc.heap.size ≤ B) ∧ (W < bs ∨ wc.heap.size ≤ W)) (h2 : w.heap.size ≤ A ∧ w.heap.size ≤ B ∧ w.heap.size ≤ W) (h3 : A ≠ B) : ∃ a c, TjStart n l w wx O A B W a c := by
  have hsh : ∀ k : Nat, ∃ p : Option Addr × Nat, k < n → v k = .slice p.1 (GrM.next n l k).length p.2 := fun k => by
    by_cases hk : k < n
    · obtain ⟨a, c, e, _⟩ := hR.shape hk
      exact ⟨(a, c), fun _ => by rw [e]; simp [GrM.ints]⟩
    · exact ⟨(none, 0), fun h => absurd h hk⟩
  obtain ⟨p, hp⟩ := Classical.axiomOfChoice hsh
  refine ⟨fun k => (p k).1, fun k => (p k).2, hb, hW, hA, hB, ⟨hA.lt, hB.lt, hW.lt⟩, ⟨h2.1, h2.2.1, h2.2.2, hb.size⟩, h3, fun wr hK k hk => ?_⟩
  have hO : Blk wx O _ _ := hR.blk.after hle
  have hOA : O ≠ A := Blk.ne hO hA (by decide)
  have hOB : O ≠ B := Blk.ne hO hB (by decide)
  have hOW : O ≠ W := Blk.ne hO hW (by decide)
  have hO2 : Blk wr O _ _ := (hK.at_ O hO.lt hOA hOB hOW).trans hO
  refine ⟨by rw [hO2.tabCell hk, hp k hk], ?_⟩
  have hown := hR.fam.own k hk
  obtain ⟨a, cc, e, _, hat, _, _⟩ := IntsAt.own hown
  rw [hp k hk] at e
  injection e with e1 _ _
  rw [e1]
  rcases hat with h | ⟨g, off, hg, hgl, hrow⟩
  · exact Or.inl h
  · have hgw : bs ≤ g ∧ g < wc.heap.size := by
      have := hown.lt g (by rw [hp k hk, e1, hg]; rfl)
      exact this
    have hx := hle.size
    have hkk : wr.heap[g]? = wc.heap[g]? := (hK.at_ g (by omega) (by omega) (by omega) (by omega)).trans (hle.block g hgw.2)
    refine Or.inr ⟨g, off, hg, by have := hK.size; omega, fun j hj => (World.cell?_of_block (w := wc) (w' := wr) hkk).trans (hrow j hj)⟩
theorem TjStart.pack {n : Nat} {l : List EgM} {w wx : World} {O A B W : Nat} (h : ∃ a c, TjStart n l w wx O A B W a c) : ∃ (O' A' B' W' : Nat) (a : Nat → Option Addr) (c : Nat → Nat), Value.pointer (some ⟨W, 0, none⟩) = .pointer (some ⟨W', 0, none⟩) ∧ Box (TjStart n l w wx O' A' B' W' a c) := by
  obtain ⟨a, c, h⟩ := h
  exact ⟨O, A, B, W, a, c, rfl, ⟨h⟩⟩
theorem TjStart.mem {n : Nat} {l : List EgM} {w wx : World} {O A B W : Nat} {a : Nat → Option Addr} {c : Nat → Nat} (h : TjStart n l w wx O A B W a c) : TjMem n w wx O A B W wx.heap.size TjM.start (fun _ => .slice none 0 0) (.slice none 0 0) wx where
  below := h.below
  kept := ⟨Nat.le_refl _, fun _ _ _ _ _ => rfl⟩
  blk := h.blk
  wt := h.wt
  lt := h.lt
  fam := (Fam.nil _ _ _ _ _).like (fun _ _ => rfl) (fun i _ => by unfold TjM.row; split <;> simp [TjM.start]) (fun i _ => by unfold TjM.row; split <;> simp [TjM.start, GrM.ints, intVals])
  tab := World.ownsRow_nil _ _ _ _

theorem TjM.row_at {s : TjSt} {i : Nat} (h : i < s.parts.length) (h2 : i < 100) : TjM.row s i = s.parts[i] := by
  unfold TjM.row
  rw [if_neg (by omega), List.getElem?_eq_getElem h]; rfl
theorem head_mem {l : List Nat} (h : l ≠ []) : l[0]! ∈ l := by
  have := List.length_pos_iff.2 h
  rw [getElem!_pos l 0 this]; exact List.getElem_mem _
/-- The parts, put in order. -/
theorem TjM.sorted_post {m : Nat} {l : List EgM} {w w' : World} {P : List (List Nat)} {I : List Nat} {v : Nat → Value} {pv : Value} (hc : GrM.check (m : Int) l = 0) (hb : Below w.heap.size w w') (hP : TjM.IsParts m l P) (hI : I.Perm (List.range P.length)) (hpw : I.Pairwise fun i j => (P[i]!)[0]! < (P[j]!)[0]!)
    (hT : w'.ownsRow w.heap.size 31 1 pv P.length (I.map v)) (hR : ∀ i (h : i < P.length), w'.ownsRow w.heap.size 3 1 (v i) (P[i]).length (intVals (GrM.ints P[i]))) :
    TjM.PartsPost (m : Int) l w (.returned (.tuple #[pv, .int .i64 0])) w' := by
  have hl : I.length = P.length := by rw [hI.length_eq, List.length_range]
  have hid : (List.range P.length).map (fun i => P[i]!) = P := by
    apply List.ext_getElem
    · simp
    · intro i h1 h2
      simp [h2]
  have hmem : ∀ i (h : i < I.length), I[i] < P.length := fun i h => List.mem_range.1 (hI.mem_iff.1 (List.getElem_mem h))
  refine ⟨hb, Or.inr ⟨hc, I.map (fun i => P[i]!), fun i => v I[i]!, pv, rfl, ?_, ?_, ?_, fun i hi => ?_⟩⟩
  · rw [Int.toNat_natCast]
    refine hP.perm ?_
    have := hI.map (fun i => P[i]!)
    rwa [hid] at this
  · rw [List.pairwise_map]; exact hpw
  · have e : (List.range (I.map (fun i => P[i]!)).length).map (fun i => v I[i]!) = I.map v := by
      apply List.ext_getElem
      · simp
      · intro i h1 h2
        have : i < I.length := by simpa using h2
        simp [this]
    rw [e, List.length_map, hl]; exact hT
  · have hi2 : i < I.length := by simpa using hi
    have h1 := hmem i hi2
    have e : (I.map (fun i => P[i]!))[i] = P[I[i]] := by simp [h1]
    dsimp only
    rw [e, getElem!_pos I i hi2]
    exact hR _ h1
set_option maxRecDepth 20000 in
set_option maxHeartbeats 16000000 in
theorem parts_any (n : Int) (l : List EgM) (ao : Option Addr) (cap : Nat) (w : World) (h : EgsAt w ao l) (hn : l.length ≤ 9000000000000) :
    Calls Try.prog 17 #[.int .i64 n, .slice ao l.length cap] w (TjM.PartsPost n l w) := by
  obtain ⟨i0, hi0, hz0, hz1, hz2⟩ := info_parts Try.infoIntG
  have H := box h
  clear h
  go_enter Try.func17, Try.ntmps17
  go_wp2_with fail
  refine (graphCheck_any n l ao cap w H.out hn).mono ?_
  rintro e w1 ⟨rfl, hb1⟩
  have HB1 := box hb1
  clear hb1
  obtain ⟨c, HC⟩ : ∃ c, Box (GrM.check n l = c) := ⟨_, ⟨rfl⟩⟩
  rw [HC.out]
  cases d0 : (c == 0) with
  | false =>
    have d1 : (c != 0) = true := by simpa using d0
    have HC0 : Box (c ≠ 0) := ⟨by simpa using d0⟩
    go_wp2_with fail
    go_ret2
    exact ⟨HB1.out, Or.inl ⟨by rw [HC.out]; exact HC0.out, by rw [HC.out]; rfl⟩⟩
  | true =>
  obtain rfl : c = 0 := by simpa using d0
  obtain ⟨m, rfl, hm6, hl2, hf⟩ := GrM.check_ok HC.out
  have HFf := box hf
  clear hf
  have hmk : ∀ W : World, (Instr.makeSlice 31 (.int .i64 (m : Int)) (.int .i64 (m : Int))).run Try.prog W = .ok (.slice (some ⟨W.heap.size, 0, none⟩) m m) (W.alloc (.cells (Tab m (fun _ => (Value.int .i64 0))).toArray 3)) :=
    fun W => run_make_tab (P := Try.prog) W 31 3 i0 (.int .i64 0) Try.underlying31 hi0 hz0 hz1 rfl m (by rw [hz2]; omega) (by omega)
  have hs1 := HB1.out.size
  go_upto_region 4 with (fail)
  go_cut [7] (fun s7 wx => ∃ (O A B W : Nat) (a : Nat → Option Addr) (c : Nat → Nat), s7 = .pointer (some ⟨W, 0, none⟩) ∧ Box (TjStart m l w wx O A B W a c))
  case first =>
    go_region_with (first | (go_at_call 51; refine (graphNext_any m l ao cap _ (H.out.below (by first | exact HB1.out.drew | exact HB1.out.drew.alloc hs1 _ | exact (HB1.out.drew.alloc hs1 _).alloc (by simp; omega) _) (Nat.le_refl _)) hl2 hm6 HFf.out).mono ?_; rintro e W2 ⟨hb2, O, v, rfl, hO, hR⟩; have HR := box hR; have HB2 := box hb2; clear hb2 hR hO))
    all_goals (have hs2 := HB2.out.size)
    all_goals (have HBw : Box (Below w.heap.size w W2) := ⟨by
      first
        | exact HB1.out.drew.trans (HB2.out.mono hs1)
        | exact (HB1.out.drew.alloc hs1 _).trans (HB2.out.mono (by simp; omega))
        | exact ((HB1.out.drew.alloc hs1 _).alloc (by simp; omega) _).trans (HB2.out.mono (by simp; omega))⟩)
    all_goals (have hsw := HBw.out.size)
    all_goals (try simp at hs2)
    all_goals (go_wp2_with fail)
    all_goals go_meet
    all_goals first
      | exact TjStart.pack (O := O) (A := W2.heap.size) (B := W2.heap.size + 1) (W := W2.heap.size + 1 + 1) (TjStart.mk' (v := v) (wc := W2)
          (by first | exact ((HBw.out.alloc hsw _).alloc (by simp; omega) _).alloc (by simp; omega) _ | exact (HBw.out.alloc hsw _).alloc (by simp; omega) _ | exact HBw.out.alloc hsw _)
          (by
            first
              | exact ((Blk.new W2 _ _).alloc _).alloc _
              | exact (Blk.new' (by simp) _ _).alloc _
              | exact (Blk.new W2 _ _).alloc _
              | exact ((((Blk.new w1 _ _).drew).after HB2.out).alloc _).alloc _
              | exact (((((Blk.new w1 _ _).alloc _).drew).after HB2.out)).alloc _
              | exact ((((Blk.new' (by simp) _ _).drew).after HB2.out)).alloc _)
          (by
            first
              | exact ((Blk.new W2 _ _).alloc _).alloc _
              | exact (Blk.new' (by simp) _ _).alloc _
              | exact (Blk.new W2 _ _).alloc _
              | exact ((((Blk.new w1 _ _).drew).after HB2.out).alloc _).alloc _
              | exact (((((Blk.new w1 _ _).alloc _).drew).after HB2.out)).alloc _
              | exact ((((Blk.new' (by simp) _ _).drew).after HB2.out)).alloc _)
          HR.out
          (by first | exact (((Below.refl _ W2).alloc (Nat.le_refl _) _).alloc (by simp) _).alloc (by simp; omega) _ | exact ((Below.refl _ W2).alloc (Nat.le_refl _) _).alloc (by simp) _ | exact (Below.refl _ W2).alloc (Nat.le_refl _) _)
          (by first | exact Blk.new' (by simp) _ _ | exact Blk.new _ _ _)
          (by first | (simp; done) | (simp; omega)) (by omega) (by omega))
      | exact TjStart.pack (O := O) (A := W2.heap.size + 1) (B := W2.heap.size) (W := W2.heap.size + 1 + 1) (TjStart.mk' (v := v) (wc := W2)
          (by first | exact ((HBw.out.alloc hsw _).alloc (by simp; omega) _).alloc (by simp; omega) _ | exact (HBw.out.alloc hsw _).alloc (by simp; omega) _ | exact HBw.out.alloc hsw _)
          (by
            first
              | exact ((Blk.new W2 _ _).alloc _).alloc _
              | exact (Blk.new' (by simp) _ _).alloc _
              | exact (Blk.new W2 _ _).alloc _
              | exact ((((Blk.new w1 _ _).drew).after HB2.out).alloc _).alloc _
              | exact (((((Blk.new w1 _ _).alloc _).drew).after HB2.out)).alloc _
              | exact ((((Blk.new' (by simp) _ _).drew).after HB2.out)).alloc _)
          (by
            first
              | exact ((Blk.new W2 _ _).alloc _).alloc _
              | exact (Blk.new' (by simp) _ _).alloc _
              | exact (Blk.new W2 _ _).alloc _
              | exact ((((Blk.new w1 _ _).drew).after HB2.out).alloc _).alloc _
              | exact (((((Blk.new w1 _ _).alloc _).drew).after HB2.out)).alloc _
              | exact ((((Blk.new' (by simp) _ _).drew).after HB2.out)).alloc _)
          HR.out
          (by first | exact (((Below.refl _ W2).alloc (Nat.le_refl _) _).alloc (by simp) _).alloc (by simp; omega) _ | exact ((Below.refl _ W2).alloc (Nat.le_refl _) _).alloc (by simp) _ | exact (Below.refl _ W2).alloc (Nat.le_refl _) _)
          (by first | exact Blk.new' (by simp) _ _ | exact Blk.new _ _ _)
          (by first | (simp; done) | (simp; omega)) (by omega) (by omega))
      | exact TjStart.pack (O := O) (A := w1.heap.size) (B := W2.heap.size) (W := W2.heap.size + 1) (TjStart.mk' (v := v) (wc := W2)
          (by first | exact ((HBw.out.alloc hsw _).alloc (by simp; omega) _).alloc (by simp; omega) _ | exact (HBw.out.alloc hsw _).alloc (by simp; omega) _ | exact HBw.out.alloc hsw _)
          (by
            first
              | exact ((Blk.new W2 _ _).alloc _).alloc _
              | exact (Blk.new' (by simp) _ _).alloc _
              | exact (Blk.new W2 _ _).alloc _
              | exact ((((Blk.new w1 _ _).drew).after HB2.out).alloc _).alloc _
              | exact (((((Blk.new w1 _ _).alloc _).drew).after HB2.out)).alloc _
              | exact ((((Blk.new' (by simp) _ _).drew).after HB2.out)).alloc _)
          (by
            first
              | exact ((Blk.new W2 _ _).alloc _).alloc _
              | exact (Blk.new' (by simp) _ _).alloc _
              | exact (Blk.new W2 _ _).alloc _
              | exact ((((Blk.new w1 _ _).drew).after HB2.out).alloc _).alloc _
              | exact (((((Blk.new w1 _ _).alloc _).drew).after HB2.out)).alloc _
              | exact ((((Blk.new' (by simp) _ _).drew).after HB2.out)).alloc _)
          HR.out
          (by first | exact (((Below.refl _ W2).alloc (Nat.le_refl _) _).alloc (by simp) _).alloc (by simp; omega) _ | exact ((Below.refl _ W2).alloc (Nat.le_refl _) _).alloc (by simp) _ | exact (Below.refl _ W2).alloc (Nat.le_refl _) _)
          (by first | exact Blk.new' (by simp) _ _ | exact Blk.new _ _ _)
          (by first | (simp; done) | (simp; omega)) (by omega) (by omega))
      | exact TjStart.pack (O := O) (A := W2.heap.size) (B := w1.heap.size) (W := W2.heap.size + 1) (TjStart.mk' (v := v) (wc := W2)
          (by first | exact ((HBw.out.alloc hsw _).alloc (by simp; omega) _).alloc (by simp; omega) _ | exact (HBw.out.alloc hsw _).alloc (by simp; omega) _ | exact HBw.out.alloc hsw _)
          (by
            first
              | exact ((Blk.new W2 _ _).alloc _).alloc _
              | exact (Blk.new' (by simp) _ _).alloc _
              | exact (Blk.new W2 _ _).alloc _
              | exact ((((Blk.new w1 _ _).drew).after HB2.out).alloc _).alloc _
              | exact (((((Blk.new w1 _ _).alloc _).drew).after HB2.out)).alloc _
              | exact ((((Blk.new' (by simp) _ _).drew).after HB2.out)).alloc _)
          (by
            first
              | exact ((Blk.new W2 _ _).alloc _).alloc _
              | exact (Blk.new' (by simp) _ _).alloc _
              | exact (Blk.new W2 _ _).alloc _
              | exact ((((Blk.new w1 _ _).drew).after HB2.out).alloc _).alloc _
              | exact (((((Blk.new w1 _ _).alloc _).drew).after HB2.out)).alloc _
              | exact ((((Blk.new' (by simp) _ _).drew).after HB2.out)).alloc _)
          HR.out
          (by first | exact (((Below.refl _ W2).alloc (Nat.le_refl _) _).alloc (by simp) _).alloc (by simp; omega) _ | exact ((Below.refl _ W2).alloc (Nat.le_refl _) _).alloc (by simp) _ | exact (Below.refl _ W2).alloc (Nat.le_refl _) _)
          (by first | exact Blk.new' (by simp) _ _ | exact Blk.new _ _ _)
          (by first | (simp; done) | (simp; omega)) (by omega) (by omega))
      | exact TjStart.pack (O := O) (A := w1.heap.size) (B := w1.heap.size + 1) (W := W2.heap.size) (TjStart.mk' (v := v) (wc := W2)
          (by first | exact ((HBw.out.alloc hsw _).alloc (by simp; omega) _).alloc (by simp; omega) _ | exact (HBw.out.alloc hsw _).alloc (by simp; omega) _ | exact HBw.out.alloc hsw _)
          (by
            first
              | exact ((Blk.new W2 _ _).alloc _).alloc _
              | exact (Blk.new' (by simp) _ _).alloc _
              | exact (Blk.new W2 _ _).alloc _
              | exact ((((Blk.new w1 _ _).drew).after HB2.out).alloc _).alloc _
              | exact (((((Blk.new w1 _ _).alloc _).drew).after HB2.out)).alloc _
              | exact ((((Blk.new' (by simp) _ _).drew).after HB2.out)).alloc _)
          (by
            first
              | exact ((Blk.new W2 _ _).alloc _).alloc _
              | exact (Blk.new' (by simp) _ _).alloc _
              | exact (Blk.new W2 _ _).alloc _
              | exact ((((Blk.new w1 _ _).drew).after HB2.out).alloc _).alloc _
              | exact (((((Blk.new w1 _ _).alloc _).drew).after HB2.out)).alloc _
              | exact ((((Blk.new' (by simp) _ _).drew).after HB2.out)).alloc _)
          HR.out
          (by first | exact (((Below.refl _ W2).alloc (Nat.le_refl _) _).alloc (by simp) _).alloc (by simp; omega) _ | exact ((Below.refl _ W2).alloc (Nat.le_refl _) _).alloc (by simp) _ | exact (Below.refl _ W2).alloc (Nat.le_refl _) _)
          (by first | exact Blk.new' (by simp) _ _ | exact Blk.new _ _ _)
          (by first | (simp; done) | (simp; omega)) (by omega) (by omega))
      | exact TjStart.pack (O := O) (A := w1.heap.size + 1) (B := w1.heap.size) (W := W2.heap.size) (TjStart.mk' (v := v) (wc := W2)
          (by first | exact ((HBw.out.alloc hsw _).alloc (by simp; omega) _).alloc (by simp; omega) _ | exact (HBw.out.alloc hsw _).alloc (by simp; omega) _ | exact HBw.out.alloc hsw _)
          (by
            first
              | exact ((Blk.new W2 _ _).alloc _).alloc _
              | exact (Blk.new' (by simp) _ _).alloc _
              | exact (Blk.new W2 _ _).alloc _
              | exact ((((Blk.new w1 _ _).drew).after HB2.out).alloc _).alloc _
              | exact (((((Blk.new w1 _ _).alloc _).drew).after HB2.out)).alloc _
              | exact ((((Blk.new' (by simp) _ _).drew).after HB2.out)).alloc _)
          (by
            first
              | exact ((Blk.new W2 _ _).alloc _).alloc _
              | exact (Blk.new' (by simp) _ _).alloc _
              | exact (Blk.new W2 _ _).alloc _
              | exact ((((Blk.new w1 _ _).drew).after HB2.out).alloc _).alloc _
              | exact (((((Blk.new w1 _ _).alloc _).drew).after HB2.out)).alloc _
              | exact ((((Blk.new' (by simp) _ _).drew).after HB2.out)).alloc _)
          HR.out
          (by first | exact (((Below.refl _ W2).alloc (Nat.le_refl _) _).alloc (by simp) _).alloc (by simp; omega) _ | exact ((Below.refl _ W2).alloc (Nat.le_refl _) _).alloc (by simp) _ | exact (Below.refl _ W2).alloc (Nat.le_refl _) _)
          (by first | exact Blk.new' (by simp) _ _ | exact Blk.new _ _ _)
          (by first | (simp; done) | (simp; omega)) (by omega) (by omega))
  case rest =>
  obtain ⟨O, A, B, W, a, c, rfl, HSt⟩ := hcut
  have HM0 := box HSt.out.mem
  have HF := box HSt.out.fix_
  clear hmk HFf HB1 hs1 HSt
  obtain ⟨N, HN⟩ : ∃ N, Box (wc.heap.size = N) := ⟨_, ⟨rfl⟩⟩
  rw [HN.out] at HM0 HF
  go_wp2_with fail
  go_loopw [25] (fun t25 wr => ∃ (k : Nat) (s : TjSt) (v : Nat → Value) (pv : Value), k ≤ m ∧ t25 = .int .i64 (k : Int) ∧ Box (TjM.Inv m l [] s ∧ ∀ x, x < k → s.when x ≠ 0) ∧ Box (TjMem m w wc O A B W N s v pv wr)) (fun t25 _ => m - (RowKit.intOf t25).toNat)
  case atStart => exact ⟨0, _, _, _, Nat.zero_le _, rfl, ⟨TjM.Inv.start, fun x hx => by omega⟩, HM0⟩
  case round =>
    obtain ⟨k, s, v, pv, hk, rfl, HI, HM⟩ := hrel
    clear HM0
    by_cases hlt : k < m
    · have c1 := HM.out.blk.cell (i := 1) rfl
      have cw := HM.out.wt.cell hlt
      by_cases hw : s.when k = 0
      · rw [hw] at cw
        go_wp2_with fail
        refine (visit_any HF.out hm6 (TjM.white m s) s v pv wr k [] (Nat.le_refl _) HM.out HI.out.1 hw hlt (fun g hg => by cases hg)).mono ?_
        rintro e w5 ⟨rfl, s', v', pv', hrun, hM'⟩
        have hpost := TjM.run_keeps hrun [] HI.out.1 hw hlt (fun g hg => by cases hg)
        have HI' : Box (TjM.Inv m l [] s' ∧ ∀ x, x < k + 1 → s'.when x ≠ 0) := ⟨hpost.inv, fun x hx => by
          by_cases e : x = k
          · subst e; have := hpost.new; omega
          · rw [(hpost.old x (HI.out.2 x (by omega))).1]; exact HI.out.2 x (by omega)⟩
        have HM' := box hM'
        clear hrun hM' hpost c1 cw hw
        go_wp2_with fail
        go_roundw
        case rel => exact ⟨k + 1, s', v', pv', by omega, by go_num, HI', HM'⟩
        case measure => simp [RowKit.intOf]; omega
      · have q0 : ((s.when k : Int) == 0) = false := by simp; omega
        have q0n : ((s.when k : Int) = 0) = False := by simp; omega
        have HI' : Box (TjM.Inv m l [] s ∧ ∀ x, x < k + 1 → s.when x ≠ 0) := ⟨HI.out.1, fun x hx => by
          by_cases e : x = k
          · subst e; exact hw
          · exact HI.out.2 x (by omega)⟩
        clear hw
        go_wp2_with fail
        go_roundw
        case rel => exact ⟨k + 1, s, v, pv, by omega, by go_num, HI', HM⟩
        case measure => simp [RowKit.intOf]; omega
    · obtain rfl : k = m := by omega
      have HP := box (TjM.all HI.out.1 HI.out.2)
      have hPl := HP.out.len
      have c4 := HM.out.blk.cell (i := 4) rfl
      have hsort := partSort_any s.parts v pv N wr HM.out.tab (fun i hi => by
        refine ⟨(HP.out.scc _ (List.getElem_mem hi)).1, fun x hx => ?_, ?_⟩
        · have := (HP.out.mem x).1 (List.mem_flatten.2 ⟨_, List.getElem_mem hi, hx⟩)
          omega
        · have := HM.out.fam.own i (by omega)
          rw [TjM.row_at hi (by omega)] at this
          exact this) (fun i j hi hj he => by
        refine TjM.flat_one HP.out.nd hi hj (x := s.parts[i][0]!) (head_mem (HP.out.scc _ (List.getElem_mem hi)).1) ?_
        rw [he]; exact head_mem (HP.out.scc _ (List.getElem_mem hj)).1) (by omega)
      have HSo := box hsort
      clear hsort hlt hk HI
      go_wp2_with fail
      refine HSo.out.mono ?_
      rintro e w5 ⟨rfl, I, hI, hpw, hown, hg⟩
      have hrow : ∀ q, pv.ownBlock = some q → N ≤ q := fun q hq => (HM.out.tab.lt q hq).1
      have bW := Blk.grown HM.out.blk hg (fun e => by have := hrow W e; have := HF.out.lt.2.2; omega)
      have d4 := bW.cell (i := 4) rfl
      have hbw : Below w.heap.size w w5 := HM.out.below.grown hg (by have := HM.out.below.size; exact this) (fun q hq => Nat.le_trans HF.out.le.2.2.2 (hrow q hq))
      have HRes := box (TjM.sorted_post HC.out hbw HP.out hI hpw (ownsRow_mono hown HF.out.le.2.2.2) (fun i hi => by
        have h1 := HM.out.fam.own i (by omega)
        rw [TjM.row_at hi (by omega)] at h1
        exact ownsRow_mono (tj_far HM.out.tab hg h1 (by decide)) HF.out.le.2.2.2))
      clear hI hpw hown hg hrow bW hbw HSo c4
      go_wp2_with fail
      go_ret2
      exact HRes.out
end Go.Proofs.Ytgkclgmekbgjmaa
