/- lastWriter: what it computes. -/
import Derived.Test.YtlmibgjflgkalaaTurn
namespace Go.Proofs.Ytlmibgjflgkalaa
open Go.RowKit Go.Lib

def setL {α : Type} : List α → Nat → List α → List α
  | C, _, [] => C
  | C, o, v :: r => setL (C.set o v) (o + 1) r
theorem setL_get {α : Type} : ∀ (vs C : List α) (o i : Nat), o + vs.length ≤ C.length → (setL C o vs)[i]? = if o ≤ i ∧ i < o + vs.length then vs[i - o]? else C[i]?
  | [], C, o, i, _ => by
    rw [setL, if_neg]
    simp only [List.length_nil]; omega
  | v :: r, C, o, i, h => by
    simp only [List.length_cons] at h
    rw [setL, setL_get r _ (o + 1) i (by simp; omega)]
    by_cases e : i = o
    · subst e
      rw [if_neg (by omega), if_pos (by simp), List.getElem?_set_self (by omega), Nat.sub_self]
      rfl
    · by_cases h1 : o + 1 ≤ i ∧ i < o + 1 + r.length
      · rw [if_pos h1, if_pos (by simp; omega)]
        rw [show i - o = (i - (o + 1)) + 1 by omega, List.getElem?_cons_succ]
      · rw [if_neg h1, if_neg (by simp; omega), List.getElem?_set_ne (fun h => e h.symm)]
theorem setL_all {α : Type} {vs C : List α} (h : vs.length = C.length) : setL C 0 vs = vs := by
  apply List.ext_getElem?
  intro i
  rw [setL_get vs C 0 i (by omega)]
  by_cases h1 : i < vs.length
  · rw [if_pos (by omega)]; simp
  · rw [if_neg (by omega), List.getElem?_eq_none (by omega), List.getElem?_eq_none (by omega)]
theorem Blk.setL {b t : Nat} : ∀ (vs : List Value) {w : World} {C : List Value} (o : Nat), Blk w b t C → Blk (w.setCells b o vs) b t (Go.Proofs.Ytlmibgjflgkalaa.setL C o vs)
  | [], _, _, _, h => h
  | v :: r, _, _, o, h => Blk.setL r (o + 1) (h.set o v)
theorem Blk.setAll {w : World} {b t : Nat} {C vs : List Value} (h : Blk w b t C) (hl : vs.length = C.length) : Blk (w.setCells b 0 vs) b t vs := by
  have := Blk.setL vs 0 h
  rwa [setL_all hl] at this
theorem Below.setCells {N b : Nat} {a : World} (hb : N ≤ b) : ∀ (vs : List Value) {w : World} (o : Nat), Below N a w → Below N a (w.setCells b o vs)
  | [], _, _, h => h
  | v :: r, _, o, h => Below.setCells hb r (o + 1) (h.setCell hb v)

def lwVals (l : List OpM) : List Value := Tab 20 fun it => .int .i64 (StampM.lw it l)

set_option maxRecDepth 100000 in
set_option maxHeartbeats 4000000 in
theorem lastWriter_any (l : List OpM) (ao : Option Addr) (cap : Nat) (w : World) (h : OpsAt w ao l) (hn : l.length ≤ 5000000000) (hv : ∀ o ∈ l, o.kind = 2 → 0 ≤ o.item ∧ o.item < 20) :
    Calls Try.prog 25 #[.slice ao l.length cap] w fun e w' => e = .returned (.agg (lwVals l).toArray) ∧ Below w.heap.size w w' := by
  have H := box h; have Hv := box hv
  clear h hv
  go_enter Try.func25, Try.ntmps25
  go_wp2_with fail
  go_loopw [7] (fun t7 wr => ∃ k : Nat, k ≤ 20 ∧ t7 = .int .i64 (k : Int) ∧ Blk wr w.heap.size 53 (Tab 20 fun _ => .int .i64 0) ∧ Blk wr (w.heap.size + 1) 53 (Tab 20 fun i => .int .i64 (if i < k then -1 else 0)) ∧ Below w.heap.size w wr) (fun t7 _ => 20 - (intOf t7).toNat)
  case atStart =>
    refine ⟨0, by omega, rfl, (Blk.new w (Tab 20 fun _ => .int .i64 0) _).alloc _, ?_, ((Below.refl _ _).alloc (Nat.le_refl _) _).alloc (by simp) _⟩
    exact Blk.new' (by simp) (Tab 20 fun _ => .int .i64 0) _
  case round =>
    obtain ⟨k, hk, rfl, hB0, hB1, hb⟩ := hrel
    have HB0 := box hB0; have HB1 := box hB1; have Hb := box hb
    have l0 := hB0.lt; have l1 := hB1.lt
    by_cases hlt : k < 20
    · have c1 := hB1.tabCell hlt
      have f1 := hB1.frozen k
      clear hB0 hB1 hb
      go_wp2_with fail
      go_roundw
      case rel =>
        refine ⟨k + 1, hlt, by go_num, HB0.out.other (by show _ ≠ _ + 1; omega) _, ?_, Hb.out.setCell (by show _ ≤ _ + 1; omega) _⟩
        have := HB1.out.tabSet k (.int .i64 (-1))
        rw [show upd (fun i => Value.int .i64 (if i < k then -1 else 0)) k (.int .i64 (-1)) = (fun i => Value.int .i64 (if i < k + 1 then -1 else 0)) from by
          funext i
          simp only [upd]
          by_cases e : i = k
          · subst e; simp
          · rw [if_neg e]
            by_cases h : i < k
            · rw [if_pos h, if_pos (by omega)]
            · rw [if_neg h, if_neg (by omega)]] at this
        exact this
      case measure => simp [intOf]; omega
    · have hk20 : k = 20 := by omega
      subst hk20
      clear hB0 hB1 hb
      go_wp2_with fail
      go_loopw [15] (fun t15 w2 => ∃ j : Nat, j ≤ l.length ∧ t15 = .int .i64 (j : Int) ∧ Blk w2 w.heap.size 53 (Tab 20 fun _ => .int .i64 0) ∧ Blk w2 (w.heap.size + 1) 53 (lwVals (l.take j)) ∧ Below w.heap.size w w2) (fun t15 _ => l.length - (intOf t15).toNat)
      case atStart =>
        refine ⟨0, Nat.zero_le _, rfl, HB0.out, ?_, Hb.out⟩
        have h1 := HB1.out
        rw [Tab_congr (g := fun i => .int .i64 (StampM.lw i [])) (fun i hi => by rw [if_pos hi]; rfl)] at h1
        exact h1
      case round =>
        obtain ⟨j, hj, rfl, hC0, hC1, hb2⟩ := hrel
        have HC0 := box hC0; have HC1 := box hC1; have Hb2 := box hb2
        have m0 := hC0.lt; have m1 := hC1.lt
        by_cases hjl : j < l.length
        · obtain ⟨b, off, rfl, hbb, hrow⟩ := ((H.out.below hb2 (Nat.le_refl _)).resolve_left (by intro h; rw [h] at hjl; simp at hjl))
          obtain ⟨hc0, hc1, hc2⟩ := hrow j hjl
          have hvo := Hv.out l[j] (List.getElem_mem hjl)
          have HT : Box (∀ it, StampM.lw it (l.take (j + 1)) = if l[j].kind = 2 ∧ l[j].item.toNat = it then l[j].tx else StampM.lw it (l.take j)) := ⟨fun it => by
            rw [List.take_succ_eq_append_getElem hjl, StampM.lw_snoc]⟩
          generalize l[j] = o at *
          obtain ⟨a0, a1, a2⟩ := o
          simp only at hc0 hc1 hc2 hvo HT
          clear hrow hC0 hC1 hb2
          by_cases ek : a1 = 2
          · obtain ⟨i1, i2⟩ := hvo ek
            obtain ⟨it, rfl⟩ := Int.eq_ofNat_of_zero_le i1
            have hit : it < 20 := by omega
            have cc : wr.cell? ⟨w.heap.size + 1, it, none⟩ = some (.int .i64 (StampM.lw it (l.take j))) := HC1.out.tabCell hit
            have cf := HC1.out.frozen it
            have g1 : (a1 == 2) = true := by simp [ek]
            have Hek := box ek
            clear ek hvo i1 i2
            go_wp2_with fail
            go_roundw
            case rel =>
              refine ⟨j + 1, hjl, by go_num, (HC0.out.other (by show _ ≠ _ + 1; omega) _).alloc _, ?_, (Hb2.out.setCell (by show _ ≤ _ + 1; omega) _).alloc (by rw [World.size_setCell]; exact Hb2.out.size) _⟩
              have := HC1.out.tabSet it (.int .i64 a0)
              have e : upd (fun i => Value.int .i64 (StampM.lw i (l.take j))) it (.int .i64 a0) = (fun i => Value.int .i64 (StampM.lw i (l.take (j + 1)))) := by
                funext i
                rw [HT.out]
                simp only [upd]
                by_cases e : i = it
                · rw [if_pos e, if_pos ⟨Hek.out, by simp [e]⟩]
                · rw [if_neg e, if_neg (by simp; intro _ h; exact e h.symm)]
              rw [e] at this
              exact this.alloc _
            case measure => simp [intOf]; omega
          · have g1 : (a1 == 2) = false := by simp [ek]
            have Hek := box ek
            clear ek hvo
            go_wp2_with fail
            go_roundw
            case rel =>
              refine ⟨j + 1, hjl, by go_num, HC0.out.alloc _, ?_, Hb2.out.alloc Hb2.out.size _⟩
              have := HC1.out.alloc (.cells #[.int .i64 a0, .int .i64 a1, .int .i64 a2] 42)
              have e : lwVals (l.take (j + 1)) = lwVals (l.take j) := by
                unfold lwVals
                exact Tab_congr (fun i _ => by rw [HT.out, if_neg (fun h => Hek.out h.1)])
              rw [e]
              exact this
            case measure => simp [intOf]; omega
        · have HE : Box (l.take j = l) := ⟨List.take_of_length_le (by omega)⟩
          rw [HE.out] at HC1
          have hlen : (lwVals l).length = 20 := Tab_len _ _
          have HS := box (HC0.out.setAll (vs := lwVals l) (by rw [hlen, Tab_len]))
          have hth : wr.there w.heap.size 0 (lwVals l).toArray.size := fun i hi => by
            rw [List.size_toArray, hlen] at hi
            rw [Nat.zero_add]
            exact ⟨by rw [HC0.out.tabCell hi]; rfl, HC0.out.frozen i⟩
          have Hth := box hth
          have Hsz : Box ((Try.prog.info? 53).map (·.size) = some (lwVals l).toArray.size) := ⟨by rw [List.size_toArray, hlen]; kernel_rfl⟩
          have H1c : Box ((lwVals l).toArray.all (·.oneCell') = true) := ⟨all_oneCell_toArray (by
            intro u hu
            unfold lwVals Tab at hu
            obtain ⟨i, _, rfl⟩ := List.mem_map.1 hu
            rfl)⟩
          clear hC0 hC1 hb2 hth hlen
          generalize HL : lwVals l = L at *
          have HL2 := box HL
          clear HL
          go_wp2_with (first | (refine wpList_load_row rfl 53 (.tmp 3) rfl (w.heap.size + 1) (by rfl) 53 _ (0, 0) _ HC1.out Try.underlying53 rfl Hsz.out ?_) | (refine wpList_store_mid rfl 53 (.tmp 2) (.tmp 28) rfl w.heap.size 0 L.toArray (by rfl) (by rfl) Hth.out Hsz.out H1c.out ?_))
          refine bodyPost_ret (v := .agg L.toArray) (?_) rfl ⟨by rw [HL2.out], ?_⟩
          · refine results_cell_row (by rfl) _ _ w.heap.size 53 L.toArray (0, 0) _ ?_ HS.out Try.underlying53 rfl Hsz.out
            trace_state
            rfl
          exact Below.setCells (Nat.le_refl _) _ 0 Hb2.out
end Go.Proofs.Ytlmibgjflgkalaa
