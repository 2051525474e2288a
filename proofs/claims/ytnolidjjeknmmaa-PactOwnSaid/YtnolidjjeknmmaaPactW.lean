/- A pact in memory of the call's own; pact.hear, decide, tell, ask: what they do to it. -/
import Derived.Test.YtnolidjjeknmmaaPactC
import Derived.Test.YtnolidjjeknmmaaIntIdx
import Derived.Deep.DeepMust
import Derived.Deep.RegionLaw
namespace Go.Proofs.Ytnolidjjeknmmaa
open Go.RowKit Go.Lib

theorem intVals_set (l : List Int) (i : Nat) (x : Int) : (intVals l).set i (.int .i64 x) = intVals (l.set i x) := by simp [intVals, List.map_set]
/-- A pact in memory of the call's own. -/
structure PactIn (w : World) (base B gv vc gp pc : Nat) (s : PactSt) : Prop where
  cell : Blk w B 27 [.int .i64 s.lead, .slice (some ⟨gv, 0, none⟩) s.votes.length vc, .slice (some ⟨gp, 0, none⟩) s.parts.length pc]
  votes : w.ownsRow base 3 1 (.slice (some ⟨gv, 0, none⟩) s.votes.length vc) s.votes.length (intVals s.votes)
  parts : w.ownsRow base 3 1 (.slice (some ⟨gp, 0, none⟩) s.parts.length pc) s.parts.length (intVals s.parts)
  ne : gv ≠ gp
  bB : base ≤ B
theorem PactIn.ne_v {w : World} {base B gv vc gp pc : Nat} {s : PactSt} (h : PactIn w base B gv vc gp pc s) : B ≠ gv := by
  intro e
  have := h.cell.ne_own h.votes (by decide)
  exact this (by simp [Value.ownBlock, e])
theorem PactIn.ne_p {w : World} {base B gv vc gp pc : Nat} {s : PactSt} (h : PactIn w base B gv vc gp pc s) : B ≠ gp := by
  intro e
  have := h.cell.ne_own h.parts (by decide)
  exact this (by simp [Value.ownBlock, e])
theorem grown_set (w : World) (p : Addr) (v : Value) : w.grownBy (w.setCell p v) (some p.block) :=
  ⟨rfl, rfl, rfl, by simp, fun k _ hk => Below.heap_setCell w p v k (fun e => hk (by rw [e]))⟩
theorem PactIn.setPart {w : World} {base B gv vc gp pc : Nat} {s : PactSt} (h : PactIn w base B gv vc gp pc s) (k : Nat) (x : Int) : PactIn (w.setCell ⟨gp, k, none⟩ (.int .i64 x)) base B gv vc gp pc { s with parts := s.parts.set k x } := by
  obtain ⟨h1, h2⟩ := h.parts.stored k (.int .i64 x)
  refine ⟨?_, h.votes.kept h2 (Or.inr (by simp [Value.ownBlock]; exact h.ne)), ?_, h.ne, h.bB⟩
  · have := h.cell.other (p := ⟨gp, k, none⟩) h.ne_p (.int .i64 x)
    simpa using this
  · simp only [List.length_set]
    rw [← intVals_set]; exact h1
theorem PactIn.setVote {w : World} {base B gv vc gp pc : Nat} {s : PactSt} (h : PactIn w base B gv vc gp pc s) (k : Nat) (x : Int) : PactIn (w.setCell ⟨gv, k, none⟩ (.int .i64 x)) base B gv vc gp pc { s with votes := s.votes.set k x } := by
  obtain ⟨h1, h2⟩ := h.votes.stored k (.int .i64 x)
  refine ⟨?_, ?_, h.parts.kept h2 (Or.inr (by simp [Value.ownBlock]; exact fun e => h.ne e.symm)), h.ne, h.bB⟩
  · have := h.cell.other (p := ⟨gv, k, none⟩) h.ne_v (.int .i64 x)
    simpa using this
  · simp only [List.length_set]
    rw [← intVals_set]; exact h1
theorem PactIn.setLead {w : World} {base B gv vc gp pc : Nat} {s : PactSt} (h : PactIn w base B gv vc gp pc s) (x : Int) : PactIn (w.setCell ⟨B, 0, none⟩ (.int .i64 x)) base B gv vc gp pc { s with lead := x } :=
  ⟨h.cell.set 0 (.int .i64 x), h.votes.kept (grown_set w ⟨B, 0, none⟩ _) (Or.inr (by simp [Value.ownBlock]; exact fun e => h.ne_v e.symm)), h.parts.kept (grown_set w ⟨B, 0, none⟩ _) (Or.inr (by simp [Value.ownBlock]; exact fun e => h.ne_p e.symm)), h.ne, h.bB⟩
theorem PactIn.drew {w : World} {base B gv vc gp pc : Nat} {s : PactSt} (h : PactIn w base B gv vc gp pc s) : PactIn w.drew base B gv vc gp pc s := ⟨h.cell, h.votes, h.parts, h.ne, h.bB⟩
theorem PactIn.bv {w : World} {base B gv vc gp pc : Nat} {s : PactSt} (h : PactIn w base B gv vc gp pc s) : base ≤ gv := (h.votes.lt gv rfl).1
theorem PactIn.bp {w : World} {base B gv vc gp pc : Nat} {s : PactSt} (h : PactIn w base B gv vc gp pc s) : base ≤ gp := (h.parts.lt gp rfl).1
theorem PactIn.part {w : World} {base B gv vc gp pc : Nat} {s : PactSt} (h : PactIn w base B gv vc gp pc s) {k : Nat} (hk : k < s.parts.length) : w.cell? ⟨gp, k, none⟩ = some (.int .i64 (s.parts.getD k 0)) := by
  rw [h.parts.cellAt k (by omega), intVals_get hk, getD_of_lt hk]
theorem PactIn.vote {w : World} {base B gv vc gp pc : Nat} {s : PactSt} (h : PactIn w base B gv vc gp pc s) {k : Nat} (hk : k < s.votes.length) : w.cell? ⟨gv, k, none⟩ = some (.int .i64 (s.votes.getD k 0)) := by
  rw [h.votes.cellAt k (by omega), intVals_get hk, getD_of_lt hk]

/-- Behind a beat. -/
def PactIn.Post (w : World) (base B gv vc gp pc : Nat) (s : PactSt) (e : Ending) (w' : World) : Prop := e = .returned (.tuple #[]) ∧ PactIn w' base B gv vc gp pc s ∧ Below base w w'

set_option maxRecDepth 20000 in
set_option maxHeartbeats 4000000 in
theorem pactHear_any (s : PactSt) (base B gv vc gp pc who : Nat) (w : World) (h : PactIn w base B gv vc gp pc s) (hp : who < s.parts.length) (hv : who < s.votes.length) :
    Calls Try.prog 51 #[.pointer (some ⟨B, 0, none⟩), .int .i64 (who : Int)] w (PactIn.Post w base B gv vc gp pc (PactM.hear s who)) := by
  have H := box h
  have x0 := h.cell.cell (i := 0) rfl
  have x1 := h.cell.cell (i := 1) rfl
  have x2 := h.cell.cell (i := 2) rfl
  have yp := h.part hp
  have yv := h.vote hv
  have fv := h.votes.frozenAt who
  have HX : Box (PactM.hear s who = if s.lead ≠ 0 then s else if s.parts.getD who 0 = 1 then { s with votes := s.votes.set who 1 } else if s.parts.getD who 0 = 3 ∧ s.votes.getD who 0 = 0 then { s with votes := s.votes.set who 2 } else s) := ⟨rfl⟩
  have HS1 := box (h.setVote who 1)
  have HS2 := box (h.setVote who 2)
  have HB1 := fun v => (Below.refl base w).setCell (p := ⟨gv, who, none⟩) h.bv v
  have HBs := box HB1
  generalize s.parts.getD who 0 = p at *
  generalize s.votes.getD who 0 = v at *
  generalize hl : s.lead = lead at *
  have HL := box hl
  generalize hn : s.parts.length = n at *
  generalize hm : s.votes.length = m at *
  clear h HB1 hl hn hm
  by_cases q0 : lead = 0
  case neg =>
    have q1 : (lead != 0) = true := by simpa using q0
    have HE : Box (PactM.hear s who = s) := ⟨by rw [HX.out, if_pos q0]⟩
    clear q0 HX
    go_enter Try.func51, Try.ntmps51
    go_wp2_with fail
    refine bodyPost_end (by simp [results, Try.results51, go_sem]) rfl ⟨rfl, by rw [HE.out]; exact H.out, Below.refl _ _⟩
  subst q0
  cases q2 : (p == 1) with
  | true =>
    have HE : Box (PactM.hear s who = { s with votes := s.votes.set who 1 }) := ⟨by rw [HX.out, if_neg (by simp), if_pos (by simpa using q2), HL.out]⟩
    clear HX
    rw [← HL.out] at HS1
    go_enter Try.func51, Try.ntmps51
    go_wp2_with fail
    refine bodyPost_end (by simp [results, Try.results51, go_sem]) rfl ⟨rfl, by rw [HE.out]; exact HS1.out, HBs.out _⟩
  | false =>
  cases q3 : (p == 3) with
  | false =>
    have HE : Box (PactM.hear s who = s) := ⟨by rw [HX.out, if_neg (by simp), if_neg (by simpa using q2), if_neg (by simp at q3; omega)]⟩
    clear HX
    go_enter Try.func51, Try.ntmps51
    go_wp2_with fail
    refine bodyPost_end (by simp [results, Try.results51, go_sem]) rfl ⟨rfl, by rw [HE.out]; exact H.out, Below.refl _ _⟩
  | true =>
  cases q4 : (v == 0) with
  | false =>
    have HE : Box (PactM.hear s who = s) := ⟨by rw [HX.out, if_neg (by simp), if_neg (by simpa using q2), if_neg (by simp at q4; omega)]⟩
    clear HX
    go_enter Try.func51, Try.ntmps51
    go_wp2_with fail
    refine bodyPost_end (by simp [results, Try.results51, go_sem]) rfl ⟨rfl, by rw [HE.out]; exact H.out, Below.refl _ _⟩
  | true =>
    have HE : Box (PactM.hear s who = { s with votes := s.votes.set who 2 }) := ⟨by rw [HX.out, if_neg (by simp), if_neg (by simpa using q2), if_pos (by simp at q3 q4; omega), HL.out]⟩
    clear HX
    rw [← HL.out] at HS2
    go_enter Try.func51, Try.ntmps51
    go_wp2_with fail
    refine bodyPost_end (by simp [results, Try.results51, go_sem]) rfl ⟨rfl, by rw [HE.out]; exact HS2.out, HBs.out _⟩

theorem IntsAt.ofOwn {w : World} {base g n cap : Nat} {l : List Int} (h : w.ownsRow base 3 1 (.slice (some ⟨g, 0, none⟩) n cap) n (intVals l)) : IntsAt w (some ⟨g, 0, none⟩) l := by
  obtain ⟨ao, c, h1, _, h3, _⟩ := IntsAt.own h
  injection h1 with h1
  rw [h1]; exact h3

set_option maxRecDepth 20000 in
set_option maxHeartbeats 4000000 in
theorem pactMake_any (s : PactSt) (base B gv vc gp pc : Nat) (w : World) (h : PactIn w base B gv vc gp pc s) (hv : s.votes.length ≤ 100) :
    Calls Try.prog 52 #[.pointer (some ⟨B, 0, none⟩)] w (PactIn.Post w base B gv vc gp pc (PactM.makeUp s)) := by
  have H := box h
  have x0 := h.cell.cell (i := 0) rfl
  have x1 := h.cell.cell (i := 1) rfl
  have f0 := h.cell.frozen 0
  have HX : Box (PactM.makeUp s = if s.lead ≠ 0 then s else if (2 : Int) ∈ s.votes then { s with lead := 2 } else if (0 : Int) ∈ s.votes then s else { s with lead := 1 }) := ⟨rfl⟩
  have HS1 := box (h.setLead 1)
  have HS2 := box (h.setLead 2)
  have HBs := box (fun v => (Below.refl base w).setCell (p := ⟨B, 0, none⟩) h.bB v)
  have HC := box (fun x => contains_ints s.votes x (some ⟨gv, 0, none⟩) vc w (IntsAt.ofOwn h.votes) (by omega))
  generalize hl : s.lead = lead at *
  generalize hm : s.votes.length = m at *
  clear h hl hm
  by_cases q0 : lead = 0
  case neg =>
    have q1 : (lead != 0) = true := by simpa using q0
    have HE : Box (PactM.makeUp s = s) := ⟨by rw [HX.out, if_pos q0]⟩
    clear q0 HX
    go_enter Try.func52, Try.ntmps52
    go_wp2_with fail
    refine bodyPost_end (by simp [results, Try.results52, go_sem]) rfl ⟨rfl, by rw [HE.out]; exact H.out, Below.refl _ _⟩
  subst q0
  by_cases h2 : (2 : Int) ∈ s.votes
  · have HE : Box (PactM.makeUp s = { s with lead := 2 }) := ⟨by rw [HX.out, if_neg (by simp), if_pos h2]⟩
    have HC2 := box (HC.out 2)
    rw [decide_eq_true h2] at HC2
    clear HX h2
    go_enter Try.func52, Try.ntmps52
    go_wp2_with fail
    refine HC2.out.mono ?_
    rintro e w1 ⟨rfl, rfl⟩
    go_wp2_with fail
    refine bodyPost_end (by simp [results, Try.results52, go_sem]) rfl ⟨rfl, by rw [HE.out]; exact HS2.out, HBs.out _⟩
  have HC2 := box (HC.out 2)
  rw [decide_eq_false h2] at HC2
  by_cases h0 : (0 : Int) ∈ s.votes
  · have HE : Box (PactM.makeUp s = s) := ⟨by rw [HX.out, if_neg (by simp), if_neg h2, if_pos h0]⟩
    have HC0 := box (HC.out 0)
    rw [decide_eq_true h0] at HC0
    clear HX h2 h0
    go_enter Try.func52, Try.ntmps52
    go_wp2_with fail
    refine HC2.out.mono ?_
    rintro e w1 ⟨rfl, rfl⟩
    go_wp2_with fail
    refine HC0.out.mono ?_
    rintro e w1 ⟨rfl, rfl⟩
    go_wp2_with fail
    refine bodyPost_end (by simp [results, Try.results52, go_sem]) rfl ⟨rfl, by rw [HE.out]; exact H.out, Below.refl _ _⟩
  · have HE : Box (PactM.makeUp s = { s with lead := 1 }) := ⟨by rw [HX.out, if_neg (by simp), if_neg h2, if_neg h0]⟩
    have HC0 := box (HC.out 0)
    rw [decide_eq_false h0] at HC0
    clear HX h2 h0
    go_enter Try.func52, Try.ntmps52
    go_wp2_with fail
    refine HC2.out.mono ?_
    rintro e w1 ⟨rfl, rfl⟩
    go_wp2_with fail
    refine HC0.out.mono ?_
    rintro e w1 ⟨rfl, rfl⟩
    go_wp2_with fail
    refine bodyPost_end (by simp [results, Try.results52, go_sem]) rfl ⟨rfl, by rw [HE.out]; exact HS1.out, HBs.out _⟩

set_option maxRecDepth 20000 in
set_option maxHeartbeats 4000000 in
theorem pactTell_any (s : PactSt) (base B gv vc gp pc who : Nat) (w : World) (h : PactIn w base B gv vc gp pc s) (hp : who < s.parts.length) :
    Calls Try.prog 53 #[.pointer (some ⟨B, 0, none⟩), .int .i64 (who : Int)] w (PactIn.Post w base B gv vc gp pc (PactM.tell s who)) := by
  have H := box h
  have x0 := h.cell.cell (i := 0) rfl
  have x2 := h.cell.cell (i := 2) rfl
  have yp := h.part hp
  have fp := h.parts.frozenAt who
  have HX : Box (PactM.tell s who = if s.parts.getD who 0 = 0 ∨ s.parts.getD who 0 = 1 then (if s.lead = 1 then { s with parts := s.parts.set who 2 } else if s.lead = 2 then { s with parts := s.parts.set who 3 } else s) else s) := ⟨rfl⟩
  have HS2 := box (h.setPart who 2)
  have HS3 := box (h.setPart who 3)
  have HBs := box (fun v => (Below.refl base w).setCell (p := ⟨gp, who, none⟩) h.bp v)
  generalize s.parts.getD who 0 = p at *
  generalize hl : s.lead = lead at *
  generalize hn : s.parts.length = n at *
  have HL := box hl
  clear h hl hn
  rw [← HL.out] at HS2 HS3
  by_cases hu : p = 0 ∨ p = 1
  case neg =>
    have q1 : (p == 0) = false := by simp; omega
    have q2 : (p == 1) = false := by simp; omega
    have HE : Box (PactM.tell s who = s) := ⟨by rw [HX.out, if_neg hu]⟩
    clear HX hu
    go_enter Try.func53, Try.ntmps53
    go_wp2_with fail
    refine bodyPost_end (by simp [results, Try.results53, go_sem]) rfl ⟨rfl, by rw [HE.out]; exact H.out, Below.refl _ _⟩
  rw [if_pos hu] at HX
  by_cases l1 : lead = 1
  · subst l1
    have HE : Box (PactM.tell s who = { s with parts := s.parts.set who 2 }) := ⟨by rw [HX.out, if_pos rfl, HL.out]⟩
    clear HX
    rcases hu with rfl | rfl
    · go_enter Try.func53, Try.ntmps53
      go_wp2_with fail
      refine bodyPost_end (by simp [results, Try.results53, go_sem]) rfl ⟨rfl, by rw [HE.out]; exact HS2.out, HBs.out _⟩
    · go_enter Try.func53, Try.ntmps53
      go_wp2_with fail
      refine bodyPost_end (by simp [results, Try.results53, go_sem]) rfl ⟨rfl, by rw [HE.out]; exact HS2.out, HBs.out _⟩
  have q1 : (lead == 1) = false := by simpa using l1
  by_cases l2 : lead = 2
  · subst l2
    have HE : Box (PactM.tell s who = { s with parts := s.parts.set who 3 }) := ⟨by rw [HX.out, if_neg (by simp), if_pos rfl, HL.out]⟩
    clear HX
    rcases hu with rfl | rfl
    · go_enter Try.func53, Try.ntmps53
      go_wp2_with fail
      refine bodyPost_end (by simp [results, Try.results53, go_sem]) rfl ⟨rfl, by rw [HE.out]; exact HS3.out, HBs.out _⟩
    · go_enter Try.func53, Try.ntmps53
      go_wp2_with fail
      refine bodyPost_end (by simp [results, Try.results53, go_sem]) rfl ⟨rfl, by rw [HE.out]; exact HS3.out, HBs.out _⟩
  have q2 : (lead == 2) = false := by simpa using l2
  have HE : Box (PactM.tell s who = s) := ⟨by rw [HX.out, if_neg l1, if_neg l2]⟩
  clear HX l1 l2
  rcases hu with rfl | rfl
  · go_enter Try.func53, Try.ntmps53
    go_wp2_with fail
    refine bodyPost_end (by simp [results, Try.results53, go_sem]) rfl ⟨rfl, by rw [HE.out]; exact H.out, Below.refl _ _⟩
  · go_enter Try.func53, Try.ntmps53
    go_wp2_with fail
    refine bodyPost_end (by simp [results, Try.results53, go_sem]) rfl ⟨rfl, by rw [HE.out]; exact H.out, Below.refl _ _⟩

set_option maxRecDepth 20000 in
set_option maxHeartbeats 4000000 in
theorem pactAsk_any (s : PactSt) (base B gv vc gp pc who by_ : Nat) (w : World) (h : PactIn w base B gv vc gp pc s) (hp : who < s.parts.length) (hb : by_ < s.parts.length) :
    Calls Try.prog 54 #[.pointer (some ⟨B, 0, none⟩), .int .i64 (who : Int), .int .i64 (by_ : Int)] w (PactIn.Post w base B gv vc gp pc (PactM.ask s who by_)) := by
  have H := box h
  have x2 := h.cell.cell (i := 2) rfl
  have yp := h.part hp
  have yb := h.part hb
  have fp := h.parts.frozenAt who
  have fb := h.parts.frozenAt by_
  have HX : Box (PactM.ask s who by_ = if s.parts.getD who 0 ≠ 1 ∨ who = by_ then s else if s.parts.getD by_ 0 = 0 then { s with parts := (s.parts.set by_ 3).set who 3 } else if s.parts.getD by_ 0 = 2 ∨ s.parts.getD by_ 0 = 3 then { s with parts := s.parts.set who (s.parts.getD by_ 0) } else s) := ⟨rfl⟩
  have HS1 := box (fun x => h.drew.setPart who x)
  have HS2 := box ((h.drew.setPart by_ 3).setPart who 3)
  have HBp := box (fun w' (hb : Below base w w') v => hb.setCell (p := ⟨gp, who, none⟩) h.bp v)
  have HBb := box (fun w' (hb : Below base w w') v => hb.setCell (p := ⟨gp, by_, none⟩) h.bp v)
  have x2' : ∀ v, (w.drew.setCell ⟨gp, by_, none⟩ v).cell? ⟨B, 2, none⟩ = some (.slice (some ⟨gp, 0, none⟩) s.parts.length pc) := fun v => (h.drew.cell.other (p := ⟨gp, by_, none⟩) h.ne_p v).cell rfl
  generalize s.parts.getD who 0 = p at *
  generalize s.parts.getD by_ 0 = q at *
  generalize hn : s.parts.length = n at *
  clear h hn
  by_cases h1 : p = 1
  case neg =>
    have q1 : (p != 1) = true := by simpa using h1
    have HE : Box (PactM.ask s who by_ = s) := ⟨by rw [HX.out, if_pos (Or.inl h1)]⟩
    clear HX h1
    go_enter Try.func54, Try.ntmps54
    go_wp2_with fail
    refine bodyPost_ret (by simp [results, Try.results54, go_sem]) rfl ⟨rfl, by rw [HE.out]; exact H.out, Below.refl _ _⟩
  subst h1
  by_cases hw : who = by_
  · have q1 : ((who : Int) == (by_ : Int)) = true := by simp [hw]
    have HE : Box (PactM.ask s who by_ = s) := ⟨by rw [HX.out, if_pos (Or.inr hw)]⟩
    clear HX hw
    go_enter Try.func54, Try.ntmps54
    go_wp2_with fail
    refine bodyPost_ret (by simp [results, Try.results54, go_sem]) rfl ⟨rfl, by rw [HE.out]; exact H.out, Below.refl _ _⟩
  have q1 : ((who : Int) == (by_ : Int)) = false := by simp; omega
  have hx0 : ¬ ((1 : Int) ≠ 1 ∨ who = by_) := by omega
  rw [if_neg hx0] at HX
  clear hx0
  by_cases h0 : q = 0
  · subst h0
    have HE : Box (PactM.ask s who by_ = { s with parts := (s.parts.set by_ 3).set who 3 }) := ⟨by rw [HX.out, if_pos rfl]⟩
    clear HX
    go_enter Try.func54, Try.ntmps54
    go_wp2_with fail
    go_region
    refine bodyPost_end (by simp [results, Try.results54, go_sem]) rfl ⟨rfl, by rw [HE.out]; exact HS2.out, (HBp.out _ (HBb.out _ (Below.refl _ _) _) _).drew⟩
  have q2 : (q == 0) = false := by simpa using h0
  rw [if_neg h0] at HX
  by_cases h2 : q = 2
  · subst h2
    have HE : Box (PactM.ask s who by_ = { s with parts := s.parts.set who 2 }) := ⟨by rw [HX.out, if_pos (Or.inl rfl)]⟩
    clear HX
    go_enter Try.func54, Try.ntmps54
    go_wp2_with fail
    go_region
    refine bodyPost_end (by simp [results, Try.results54, go_sem]) rfl ⟨rfl, by rw [HE.out]; exact HS1.out 2, (HBp.out _ (Below.refl _ _) _).drew⟩
  have q3 : (q == 2) = false := by simpa using h2
  by_cases h3 : q = 3
  · subst h3
    have HE : Box (PactM.ask s who by_ = { s with parts := s.parts.set who 3 }) := ⟨by rw [HX.out, if_pos (Or.inr rfl)]⟩
    clear HX
    go_enter Try.func54, Try.ntmps54
    go_wp2_with fail
    go_region
    refine bodyPost_end (by simp [results, Try.results54, go_sem]) rfl ⟨rfl, by rw [HE.out]; exact HS1.out 3, (HBp.out _ (Below.refl _ _) _).drew⟩
  have q4 : (q == 3) = false := by simpa using h3
  have HE : Box (PactM.ask s who by_ = s) := ⟨by rw [HX.out, if_neg (by omega)]⟩
  clear HX
  go_enter Try.func54, Try.ntmps54
  go_wp2_with fail
  refine bodyPost_end (by simp [results, Try.results54, go_sem]) rfl ⟨rfl, by rw [HE.out]; exact H.out, Below.refl _ _⟩
end Go.Proofs.Ytnolidjjeknmmaa
