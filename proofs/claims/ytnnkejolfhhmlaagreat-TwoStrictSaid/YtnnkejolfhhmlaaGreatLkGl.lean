/- lock.Drop: how many it wakes. -/
import Derived.Test.YtnnkejolfhhmlaaGreatLkLine
namespace Go.Proofs.YtnnkejolfhhmlaaGreat
section
open Go.RowKit Go.Lib

/-- Locks stand where a slice begins, in a block from lo on. -/
def LksIn (w : World) (lo : Nat) (ao : Option Addr) (l : List LkM) : Prop :=
  l = [] ∨ ∃ b off, ao = some ⟨b, off, none⟩ ∧ lo ≤ b ∧ b < w.heap.size ∧ ∀ k (h : k < l.length), w.cell? ⟨b, off + k * 2, none⟩ = some (.int .i64 l[k].tx) ∧ w.cell? ⟨b, off + k * 2 + 1, none⟩ = some (.int .i64 l[k].mode)
theorem LksIn.at {w : World} {lo : Nat} {ao : Option Addr} {l : List LkM} (h : LksIn w lo ao l) : LksAt w ao l := h.imp id fun ⟨b, off, h1, _, h3, h4⟩ => ⟨b, off, h1, h3, h4⟩
theorem LksAt.in_ {w : World} {ao : Option Addr} {l : List LkM} (h : LksAt w ao l) : LksIn w 0 ao l := h.imp id fun ⟨b, off, h1, h3, h4⟩ => ⟨b, off, h1, Nat.zero_le _, h3, h4⟩
theorem LksIn.keep {w w' : World} {lo : Nat} {ao : Option Addr} {l : List LkM} (h : LksIn w lo ao l) (hk : ∀ b, lo ≤ b → b < w.heap.size → w'.heap[b]? = w.heap[b]?) (hs : w.heap.size ≤ w'.heap.size) : LksIn w' lo ao l :=
  h.imp id fun ⟨b, off, h1, h2, h3, h4⟩ => ⟨b, off, h1, h2, by omega, fun k hl => ⟨(World.cell?_of_block (a := ⟨b, off + k * 2, none⟩) (hk b h2 h3)).trans (h4 k hl).1, (World.cell?_of_block (a := ⟨b, off + k * 2 + 1, none⟩) (hk b h2 h3)).trans (h4 k hl).2⟩⟩
theorem LksIn.mono {w : World} {lo lo' : Nat} {ao : Option Addr} {l : List LkM} (h : LksIn w lo ao l) (hl : lo' ≤ lo) : LksIn w lo' ao l := h.imp id fun ⟨b, off, h1, h2, h3⟩ => ⟨b, off, h1, by omega, h3⟩
theorem LksIn.own {w : World} {base n : Nat} {v : Value} {l : List LkM} (h : w.ownsRow base 137 2 v n (lkVals l)) : ∃ ao cap, v = .slice ao l.length cap ∧ n = l.length ∧ LksIn w base ao l ∧ (ao = none → cap = 0) ∧ l.length ≤ cap := by
  obtain ⟨ao, cap, rfl, hn, hat, h0, hc⟩ := LksAt.own h
  refine ⟨ao, cap, rfl, hn, hat.imp id fun ⟨b, off, h1, h2, h3⟩ => ⟨b, off, h1, ?_, h2, h3⟩, h0, hc⟩
  subst h1
  exact (h.lt b rfl).1
/-- An item of a table stands at a place. -/
structure LiIn (w : World) (lo b o : Nat) (x : LiM) (ha : Option Addr) (hc : Nat) (qa : Option Addr) (qc : Nat) : Prop where
  c0 : w.cell? ⟨b, o, none⟩ = some (.int .i64 x.item)
  c1 : w.cell? ⟨b, o + 1, none⟩ = some (.slice ha x.held.length hc)
  c2 : w.cell? ⟨b, o + 2, none⟩ = some (.slice qa x.queue.length qc)
  held : LksIn w lo ha x.held
  queue : LksIn w lo qa x.queue
  hcap : x.held.length ≤ hc
  qcap : x.queue.length ≤ qc
  hnil : ha = none → hc = 0
  qnil : qa = none → qc = 0
/-- A table of locks stands where a slice begins, all in blocks from lo on. -/
def LisIn (w : World) (lo : Nat) (ao : Option Addr) (t : List LiM) : Prop :=
  t = [] ∨ ∃ b off, ao = some ⟨b, off, none⟩ ∧ lo ≤ b ∧ b < w.heap.size ∧ ∀ k (h : k < t.length), ∃ ha hc qa qc, LiIn w lo b (off + k * 3) t[k] ha hc qa qc
theorem LiIn.keep {w w' : World} {lo b o : Nat} {x : LiM} {ha : Option Addr} {hc : Nat} {qa : Option Addr} {qc : Nat} (h : LiIn w lo b o x ha hc qa qc) (hb : lo ≤ b) (hbs : b < w.heap.size) (hk : ∀ b, lo ≤ b → b < w.heap.size → w'.heap[b]? = w.heap[b]?) (hs : w.heap.size ≤ w'.heap.size) : LiIn w' lo b o x ha hc qa qc :=
  ⟨(World.cell?_of_block (a := ⟨b, o, none⟩) (hk b hb hbs)).trans h.c0, (World.cell?_of_block (a := ⟨b, o + 1, none⟩) (hk b hb hbs)).trans h.c1, (World.cell?_of_block (a := ⟨b, o + 2, none⟩) (hk b hb hbs)).trans h.c2, h.held.keep hk hs, h.queue.keep hk hs, h.hcap, h.qcap, h.hnil, h.qnil⟩
theorem LisIn.keep {w w' : World} {lo : Nat} {ao : Option Addr} {t : List LiM} (h : LisIn w lo ao t) (hk : ∀ b, lo ≤ b → b < w.heap.size → w'.heap[b]? = w.heap[b]?) (hs : w.heap.size ≤ w'.heap.size) : LisIn w' lo ao t :=
  h.imp id fun ⟨b, off, h1, h2, h3, h4⟩ => ⟨b, off, h1, h2, by omega, fun k hl => by
    obtain ⟨ha, hc, qa, qc, h5⟩ := h4 k hl
    exact ⟨ha, hc, qa, qc, h5.keep h2 h3 hk hs⟩⟩
theorem LisIn.below {w w' : World} {B lo : Nat} {ao : Option Addr} {t : List LiM} (h : LisIn w lo ao t) (hb : Below B w w') (hB : w.heap.size ≤ B) : LisIn w' lo ao t := h.keep (fun b _ h2 => hb.block b (Nat.lt_of_lt_of_le h2 hB)) hb.size
theorem LiIn.mono {w : World} {lo lo' b o : Nat} {x : LiM} {ha : Option Addr} {hc : Nat} {qa : Option Addr} {qc : Nat} (h : LiIn w lo b o x ha hc qa qc) (hl : lo' ≤ lo) : LiIn w lo' b o x ha hc qa qc := ⟨h.c0, h.c1, h.c2, h.held.mono hl, h.queue.mono hl, h.hcap, h.qcap, h.hnil, h.qnil⟩
theorem LisIn.mono {w : World} {lo lo' : Nat} {ao : Option Addr} {t : List LiM} (h : LisIn w lo ao t) (hl : lo' ≤ lo) : LisIn w lo' ao t :=
  h.imp id fun ⟨b, off, h1, h2, h3, h4⟩ => ⟨b, off, h1, by omega, h3, fun k hk => by
    obtain ⟨ha, hc, qa, qc, h5⟩ := h4 k hk
    exact ⟨ha, hc, qa, qc, h5.mono hl⟩⟩
/-- No list is too long. -/
def LkM.Small (t : List LiM) : Prop := t.length ≤ 9000000000000 ∧ ∀ x ∈ t, x.held.length ≤ 9000000000000 ∧ x.queue.length ≤ 9000000000000
theorem LkM.Good.small {t : List LiM} (h : LkM.Good t) : LkM.Small t := ⟨by have := h.len; omega, fun x hx => by
  have h1 := LkM.okl_len (h.ok x hx).held
  have h2 := LkM.okl_len (h.ok x hx).queue
  omega⟩
/-- The number that the next item must pass. -/
def LkM.prev (t : List LiM) : Nat → Int
  | 0 => -1
  | k + 1 => match t[k]? with | some x => x.item | none => -1
theorem LkM.prev_succ {t : List LiM} {k : Nat} (hk : k < t.length) : LkM.prev t (k + 1) = t[k].item := by
  show (match t[k]? with | some x => x.item | none => -1) = t[k].item
  rw [List.getElem?_eq_getElem hk]
theorem LkM.checkFrom_at {t : List LiM} {k : Nat} (hk : k < t.length) : LkM.checkFrom (LkM.prev t k) (t.drop k) =
    if t[k].item < 0 ∨ 20 ≤ t[k].item then 1 else if t[k].item ≤ LkM.prev t k ∨ t[k].held = [] then 4 else if LkM.line t[k] = true then LkM.checkFrom (LkM.prev t (k + 1)) (t.drop (k + 1)) else 4 := by
  rw [List.drop_eq_getElem_cons hk, LkM.prev_succ hk]
  rfl

set_option maxRecDepth 20000 in
set_option maxHeartbeats 8000000 in
theorem lockCheck_any (t : List LiM) (ao : Option Addr) (cap lo : Nat) (w : World) (h : LisIn w lo ao t) (hs : LkM.Small t) :
    Calls Tryz.prog 66 #[.slice ao t.length cap] w fun e w' => e = .returned (.int .i64 (LkM.check t)) ∧ Below w.heap.size w w' := by
  have H := box h; have HSm := box hs
  have hn := hs.1
  clear h hs
  obtain ⟨N, HN⟩ : ∃ N, Box (t.length = N) := ⟨_, ⟨rfl⟩⟩
  obtain ⟨res, HRes⟩ : ∃ x, Box (LkM.check t = x) := ⟨_, ⟨rfl⟩⟩
  rw [HRes.out]
  have HRd : Box (LkM.check t = if 20 < t.length then 2 else LkM.checkFrom (-1) t) := ⟨rfl⟩
  rw [HRes.out, HN.out] at HRd
  rw [HN.out] at hn ⊢
  by_cases hbig : 20 < N
  · rw [if_pos hbig] at HRd
    obtain rfl : res = 2 := HRd.out
    go_enter Tryz.func66, Tryz.ntmps66
    go_wp2_with fail
    go_ret
    exact ⟨rfl, Below.refl _ _⟩
  · rw [if_neg hbig] at HRd
    go_enter Tryz.func66, Tryz.ntmps66
    go_wp2_with fail
    go_loopw [11] (fun t11 wr => ∃ k : Nat, k ≤ N ∧ t11 = .int .i64 (k : Int) ∧ Box (Below w.heap.size w wr ∧ res = LkM.checkFrom (LkM.prev t k) (t.drop k))) (fun t11 _ => N - (RowKit.intOf t11).toNat)
    case atStart => exact ⟨0, Nat.zero_le _, rfl, ⟨Below.refl _ _, HRd.out⟩⟩
    case round =>
      obtain ⟨k, hk, rfl, HR⟩ := hrel
      clear HRd
      by_cases hlt : k < N
      · have hkl : k < t.length := by rw [HN.out]; exact hlt
        have HAt : Box (res = if t[k].item < 0 ∨ 20 ≤ t[k].item then 1 else if t[k].item ≤ LkM.prev t k ∨ t[k].held = [] then 4 else if LkM.line t[k] = true then LkM.checkFrom (LkM.prev t (k + 1)) (t.drop (k + 1)) else 4) := ⟨by rw [HR.out.2, LkM.checkFrom_at hkl]⟩
        have hl := HSm.out.2 _ (List.getElem_mem hkl)
        obtain ⟨b, off, rfl, _, hb, hrow⟩ := (H.out.below HR.out.1 (Nat.le_refl _)).resolve_left (by intro h; rw [h] at hkl; simp at hkl)
        obtain ⟨ha, hc, qa, qc, hli⟩ := hrow k hkl
        have HPv : Box (0 < k → wr.cell? ⟨b, off + (k - 1) * 3, none⟩ = some (.int .i64 (LkM.prev t k))) := ⟨fun h => by
          obtain ⟨_, _, _, _, h2⟩ := hrow (k - 1) (by omega)
          obtain ⟨j, rfl⟩ : ∃ j, k = j + 1 := ⟨k - 1, by omega⟩
          rw [LkM.prev_succ (by omega)]
          exact h2.c0⟩
        have HP0 : Box (k = 0 → LkM.prev t k = -1) := ⟨by rintro rfl; rfl⟩
        generalize t[k] = x at *
        generalize LkM.prev t k = pv at *
        obtain ⟨it, held, queue⟩ := x
        obtain ⟨c0, c1, c2, hH, hQ, hcap, hqcap, _, _⟩ := hli
        dsimp only at c0 c1 c2 hH hQ hcap hqcap hl HAt
        have hWb : Below w.heap.size w (wr.alloc (.cells #[.int .i64 it, .slice ha held.length hc, .slice qa queue.length qc] 134)) := HR.out.1.alloc HR.out.1.size _
        have HLn := box (fun (wx : World) (hb : Below wr.heap.size wr wx) => line_any it held queue ha qa hc qc wx (hH.at.below hb (Nat.le_refl _)) (hQ.at.below hb (Nat.le_refl _)) hl.1 hl.2 hcap)
        have HWb := box hWb
        obtain ⟨HL, HHL⟩ : ∃ x, Box (held.length = x) := ⟨_, ⟨rfl⟩⟩
        obtain ⟨QL, HQL⟩ : ∃ x, Box (queue.length = x) := ⟨_, ⟨rfl⟩⟩
        rw [HHL.out, HQL.out] at HLn HWb
        have HH0 : Box (held = [] ↔ HL = 0) := ⟨by rw [← HHL.out]; exact List.length_eq_zero_iff.symm⟩
        rw [HHL.out] at c1 hcap hl
        rw [HQL.out] at c2 hqcap hl
        clear hrow hH hQ hWb
        cases d0 : decide (it < 0) with
        | true =>
          have hres : res = 1 := by rw [HAt.out, if_pos (Or.inl (of_decide_eq_true d0))]
          subst hres
          clear HLn
          go_wp2_with fail
          go_ret
          exact ⟨rfl, HWb.out⟩
        | false =>
        cases d1 : decide ((20 : Int) ≤ it) with
        | true =>
          have hres : res = 1 := by rw [HAt.out, if_pos (Or.inr (of_decide_eq_true d1))]
          subst hres
          clear HLn
          go_wp2_with fail
          go_ret
          exact ⟨rfl, HWb.out⟩
        | false =>
        have HA2 : Box (res = if it ≤ pv ∨ HL = 0 then 4 else if LkM.line ⟨it, held, queue⟩ = true then LkM.checkFrom (LkM.prev t (k + 1)) (t.drop (k + 1)) else 4) := ⟨by
          have h1 := of_decide_eq_false d0
          have h2 := of_decide_eq_false d1
          have h3 := HAt.out
          rw [if_neg (by omega)] at h3
          rw [h3]
          simp only [HH0.out]⟩
        have hpv : k = 0 → ¬ it ≤ pv := fun h => by have := HP0.out h; have := of_decide_eq_false d0; omega
        clear HAt HP0
        have HWd : Box (∀ n, Below w.heap.size w ((wr.alloc (.cells #[.int .i64 it, .slice ha HL hc, .slice qa QL qc] 134)).drewN n)) := ⟨fun n => HWb.out.trans ⟨rfl, rfl, rfl, Nat.le_refl _, fun _ _ => rfl⟩⟩
        have HWr : Box (∀ n, Below wr.heap.size wr ((wr.alloc (.cells #[.int .i64 it, .slice ha HL hc, .slice qa QL qc] 134)).drewN n)) := ⟨fun n => ((Below.refl _ _).alloc (Nat.le_refl _) _).trans ⟨rfl, rfl, rfl, Nat.le_refl _, fun _ _ => rfl⟩⟩
        cases e3 : decide (0 < k) with
        | false =>
          have hle : ¬ it ≤ pv := hpv (by have := of_decide_eq_false e3; omega)
          cases e5 : ((HL : Int) == 0) with
          | true =>
            have h0 : HL = 0 := by have : (HL : Int) = 0 := by simpa using e5
                                   omega
            have hres : res = 4 := by rw [HA2.out, if_pos (Or.inr h0)]
            subst hres
            clear HLn hpv h0 HA2
            go_wp2_with fail
            go_quiet (fail)
            go_wp2_with fail
            go_ret
            exact ⟨rfl, HWd.out nq⟩
          | false =>
            have h2 : ¬ (it ≤ pv ∨ HL = 0) := by
              rintro (h | h)
              · exact hle h
              · simp [h] at e5
            have HA3 : Box (res = if LkM.line ⟨it, held, queue⟩ = true then LkM.checkFrom (LkM.prev t (k + 1)) (t.drop (k + 1)) else 4) := ⟨by rw [HA2.out, if_neg h2]⟩
            clear HA2 h2 hpv
            go_wp2_with fail
            go_quiet (fail)
            go_wp2_with fail
            refine (HLn.out _ (HWr.out nq)).mono ?_
            rintro e w5 ⟨rfl, hb5⟩
            have HB5 := box (below_tr (HWd.out nq) hb5)
            clear hb5
            have hz : LkM.lineZ ⟨it, held, queue⟩ = if LkM.line ⟨it, held, queue⟩ = true then 0 else 4 := rfl
            cases hln : LkM.line ⟨it, held, queue⟩ with
            | true =>
              rw [hln, if_pos rfl] at hz
              have HA4 : Box (res = LkM.checkFrom (LkM.prev t (k + 1)) (t.drop (k + 1))) := ⟨by rw [HA3.out, hln, if_pos rfl]⟩
              rw [hz]
              clear hz HA3 hln
              go_wp2_with fail
              go_roundw
              case rel => exact ⟨k + 1, by omega, by go_num, ⟨HB5.out, HA4.out⟩⟩
              case measure => simp [RowKit.intOf]; omega
            | false =>
              rw [hln, if_neg (by simp)] at hz
              have hres : res = 4 := by rw [HA3.out, hln, if_neg (by simp)]
              subst hres
              rw [hz]
              clear hz HA3 hln
              go_wp2_with fail
              go_ret
              exact ⟨rfl, HB5.out⟩
        | true =>
          have p0 := HPv.out (of_decide_eq_true e3)
          have hk1 : 0 < k := of_decide_eq_true e3
          have hw1 : IntKind.i64.wrap ((k : Int) - 1) = ((k - 1 : Nat) : Int) := (IntWalk.i64_in _ (by omega)).trans (by omega)
          cases e4 : decide (it ≤ pv) with
          | true =>
            have hres : res = 4 := by rw [HA2.out, if_pos (Or.inl (of_decide_eq_true e4))]
            subst hres
            clear HLn hpv
            go_wp2_with fail
            go_quiet (fail)
            go_wp2_with fail
            go_ret
            exact ⟨rfl, HWd.out nq⟩
          | false =>
            have hle : ¬ it ≤ pv := of_decide_eq_false e4
            cases e5 : ((HL : Int) == 0) with
            | true =>
              have h0 : HL = 0 := by have : (HL : Int) = 0 := by simpa using e5
                                     omega
              have hres : res = 4 := by rw [HA2.out, if_pos (Or.inr h0)]
              subst hres
              clear HLn hpv h0 HA2
              go_wp2_with fail
              go_quiet (fail)
              go_wp2_with fail
              go_ret
              exact ⟨rfl, HWd.out nq⟩
            | false =>
              have h2 : ¬ (it ≤ pv ∨ HL = 0) := by
                rintro (h | h)
                · exact hle h
                · simp [h] at e5
              have HA3 : Box (res = if LkM.line ⟨it, held, queue⟩ = true then LkM.checkFrom (LkM.prev t (k + 1)) (t.drop (k + 1)) else 4) := ⟨by rw [HA2.out, if_neg h2]⟩
              clear HA2 h2 hpv
              go_wp2_with fail
              go_quiet (fail)
              go_wp2_with fail
              refine (HLn.out _ (HWr.out nq)).mono ?_
              rintro e w5 ⟨rfl, hb5⟩
              have HB5 := box (below_tr (HWd.out nq) hb5)
              clear hb5
              have hz : LkM.lineZ ⟨it, held, queue⟩ = if LkM.line ⟨it, held, queue⟩ = true then 0 else 4 := rfl
              cases hln : LkM.line ⟨it, held, queue⟩ with
              | true =>
                rw [hln, if_pos rfl] at hz
                have HA4 : Box (res = LkM.checkFrom (LkM.prev t (k + 1)) (t.drop (k + 1))) := ⟨by rw [HA3.out, hln, if_pos rfl]⟩
                rw [hz]
                clear hz HA3 hln
                go_wp2_with fail
                go_roundw
                case rel => exact ⟨k + 1, by omega, by go_num, ⟨HB5.out, HA4.out⟩⟩
                case measure => simp [RowKit.intOf]; omega
              | false =>
                rw [hln, if_neg (by simp)] at hz
                have hres : res = 4 := by rw [HA3.out, hln, if_neg (by simp)]
                subst hres
                rw [hz]
                clear hz HA3 hln
                go_wp2_with fail
                go_ret
                exact ⟨rfl, HB5.out⟩
      · obtain rfl : N = k := by omega
        have hres : res = 0 := by rw [HR.out.2, List.drop_of_length_le (by rw [HN.out]; exact Nat.le_refl _)]; rfl
        subst hres
        go_wp2_with fail
        go_ret
        exact ⟨rfl, HR.out.1⟩
end
section
namespace LkM
theorem serve_len : ∀ (f : Nat) (held queue : List LkM) (g : List Int), (serve f held queue g).2.2.length ≤ g.length + queue.length
  | 0, held, queue, g => Nat.le_add_right _ _
  | f + 1, held, [], g => Nat.le_refl _
  | f + 1, held, a :: r, g => by
    rw [show serve (f + 1) held (a :: r) g = if can held a = true then serve f (give held a) r (g ++ [a.tx]) else (held, a :: r, g) from rfl]
    split
    · have := serve_len f (give held a) r (g ++ [a.tx])
      simp only [List.length_append, List.length_cons, List.length_nil] at this ⊢
      omega
    · exact Nat.le_add_right _ _
theorem dropGo_len (tx : Int) : ∀ (r out : List LiM) (g : List Int), (∀ x ∈ r, x.queue.length ≤ 12) → (dropGo tx r out g).2.length ≤ g.length + 12 * r.length
  | [], out, g, _ => by simp [dropGo]
  | x :: r, out, g, h => by
    have h1 := serve_len (without x.queue tx).length (without x.held tx) (without x.queue tx) g
    have h2 : (without x.queue tx).length ≤ x.queue.length := List.length_filter_le _ _
    have h3 := h x List.mem_cons_self
    have h4 : (dropItem x tx g).2.length ≤ g.length + 12 := by
      show (serve _ _ _ g).2.2.length ≤ _
      omega
    unfold dropGo
    have := dropGo_len tx r (if (dropItem x tx g).1.held = [] then out else out ++ [(dropItem x tx g).1]) (dropItem x tx g).2 (fun y hy => h y (List.mem_cons_of_mem _ hy))
    rw [List.length_cons]
    omega
theorem drop_len {t : List LiM} (h : Good t) (tx : Int) : (drop t tx).2.length ≤ 1000 := by
  have h1 := dropGo_len tx t [] [] (fun x hx => okl_len (h.ok x hx).queue)
  have h2 := h.len
  unfold drop
  simp only [List.length_nil] at h1
  omega
end LkM
end
end Go.Proofs.YtnnkejolfhhmlaaGreat
