/- wal: headed, epochOf: walked. -/
import Derived.Test.YtpeaefeoogcepaaDoorWalW1
import Derived.Deep.QuietTactic
import Derived.BigQuiet
namespace Go.Proofs.YtpeaefeoogcepaaDoor
open Go.RowKit Go.Lib
open WalM

namespace WalM
/-- What headed answers. -/
def HeadedP (l : List UInt8) (q : Int) (w : World) (e : Ending) (w' : World) : Prop :=
  ∃ (x : Int) (r : ByteArray) (b : Bool), e = .returned (.tuple #[.int .i64 x, .string r, .bool b]) ∧ (b = true → headed l q = some (x, r.data.toList)) ∧ (b = false → headed l q = none) ∧ ∃ n, w' = w.drewN n
end WalM
set_option maxRecDepth 20000 in
set_option maxHeartbeats 4000000 in
theorem walHeaded_any (m : UInt8) (r : List UInt8) (q : Int) (w : World) (hr : r.length ≤ 1000) :
    Calls Tryd.prog 33 #[.string (BA (m :: r)), .int .i64 q] w (HeadedP (m :: r) q w) := by
  have e1 : (BA (m :: r)).extract 0 1 = BA [m] := by rw [BA_take]; rfl
  have hs : (BA (m :: r)).size = r.length + 1 := rfl
  have hd : (BA (m :: r)).extract 1 (r.length + 1) = BA r := by have := BA_drop (m :: r) 1 (by simp); exact this
  have HG := box (getInt_any (BA r) w (by rw [BA_size]; omega))
  rw [BA_list] at HG
  obtain ⟨PP, HPP⟩ : ∃ P, Box (HeadedP (m :: r) q w = P) := ⟨_, ⟨rfl⟩⟩
  rw [HPP.out]
  by_cases hm : m = 1
  case neg =>
    have q1 : ((BA [m]).toList == [1]) = false := by rw [ByteArray.toList_eq, BA_list]; simp [hm]
    have HE : Box (PP (.returned (.tuple #[.int .i64 0, .string ⟨#[]⟩, .bool false])) w) := ⟨by rw [← HPP.out]; exact ⟨0, ⟨#[]⟩, false, rfl, (fun h => by cases h), (fun _ => by simp [headed, hm]), 0, rfl⟩⟩
    generalize BA [m] = M at *
    generalize BA (m :: r) = S at *
    go_enter Tryd.func33, Tryd.ntmps33
    go_wp2_with fail
    exact HE.out
  subst hm
  have q1 : ((BA [1]).toList == [1]) = true := by rw [ByteArray.toList_eq, BA_list]; rfl
  obtain ⟨u, a, c, hx⟩ : ∃ u a c, CodeM.getNat r = (u, a, c) := ⟨_, _, _, rfl⟩
  rw [hx] at HG
  by_cases hc : c = 0
  case neg =>
    have HE : Box (PP (.returned (.tuple #[.int .i64 0, .string ⟨#[]⟩, .bool false])) w) := ⟨by
      rw [← HPP.out]
      refine ⟨0, ⟨#[]⟩, false, rfl, (fun h => by cases h), (fun _ => ?_), 0, rfl⟩
      unfold headed
      dsimp only
      rw [if_neg (by simp), hx, if_pos hc]⟩
    have ht : CodeM.tupI (u, a, c) = .tuple #[.int .i64 0, .int .i64 0, .int .i64 c] := by unfold CodeM.tupI; rw [if_neg hc]
    rw [ht] at HG
    have q2 : (c == 0) = false := by simpa using hc
    have q3 : (c != 0) = true := by simpa using hc
    clear hx hc ht
    generalize BA [1] = M at *
    generalize BA r = R at *
    generalize BA (1 :: r) = S at *
    go_enter Tryd.func33, Tryd.ntmps33
    go_wp2_with fail
    refine HG.out.mono ?_
    rintro e w' ⟨rfl, rfl⟩
    go_wp2_with fail
    exact HE.out
  subst hc
  have ht : CodeM.tupI (u, a, 0) = .tuple #[.int .i64 (CodeM.zag u), .int .i64 (a : Int), .int .i64 0] := by unfold CodeM.tupI; rw [if_pos rfl]
  rw [ht] at HG
  obtain ⟨ha1, ha2, ha3, ha4⟩ := CodeM.get_ok hx
  clear ha3 ha4
  have hd2 : (BA (1 :: r)).extract (1 + a) (r.length + 1) = BA (r.drop a) := by
    have := BA_drop (1 :: r) (1 + a) (by rw [List.length_cons]; omega)
    rw [List.length_cons] at this
    rw [this, show 1 + a = a + 1 by omega, List.drop_succ_cons]
  have HG2 := box (getInt_any (BA (r.drop a)) w (by rw [BA_size, List.length_drop]; omega))
  rw [BA_list] at HG2
  obtain ⟨v, b, d, hy⟩ : ∃ v b d, CodeM.getNat (r.drop a) = (v, b, d) := ⟨_, _, _, rfl⟩
  rw [hy] at HG2
  have hI1 : (1 + (a : Int)).toNat = 1 + a := by omega
  have hzu := zag_i64 (CodeM.get_ok hx).2.2.1
  by_cases hdz : d = 0
  case neg =>
    have HE : Box (∀ (R : ByteArray) (n : Nat), PP (.returned (.tuple #[.int .i64 (CodeM.zag u), .string R, .bool false])) (w.drewN n)) := ⟨fun R n => by
      rw [← HPP.out]
      refine ⟨_, _, false, rfl, (fun h => by cases h), (fun _ => ?_), n, rfl⟩
      unfold headed
      dsimp only
      rw [if_neg (by simp), hx]
      dsimp only
      rw [if_neg (by simp), hy, if_neg (fun h => hdz h.1)]⟩
    have ht2 : CodeM.tupI (v, b, d) = .tuple #[.int .i64 0, .int .i64 0, .int .i64 d] := by unfold CodeM.tupI; rw [if_neg hdz]
    rw [ht2] at HG2
    have q2 : (d == 0) = false := by simpa using hdz
    clear hx hy hdz ht ht2
    generalize BA [1] = M at *
    generalize BA (r.drop a) = R2 at *
    generalize BA r = R at *
    generalize BA (1 :: r) = S at *
    generalize CodeM.zag u = z at *
    go_enter Tryd.func33, Tryd.ntmps33
    go_wp2_with fail
    refine HG.out.mono ?_
    rintro e w' ⟨rfl, rfl⟩
    go_wp2_with fail
    refine HG2.out.mono ?_
    rintro e w' ⟨rfl, rfl⟩
    clear HG HG2
    go_wp2_with fail
    go_quiet (fail)
    go_wp2_with fail
    exact HE.out _ _
  subst hdz
  have ht2 : CodeM.tupI (v, b, 0) = .tuple #[.int .i64 (CodeM.zag v), .int .i64 (b : Int), .int .i64 0] := by unfold CodeM.tupI; rw [if_pos rfl]
  rw [ht2] at HG2
  obtain ⟨hb1, hb2, hb3, hb4⟩ := CodeM.get_ok hy
  have hzv := zag_i64 hb3
  rw [List.length_drop] at hb2
  clear hb3 hb4
  have hd3 : (BA (1 :: r)).extract (1 + a + b) (r.length + 1) = BA ((r.drop a).drop b) := by
    have := BA_drop (1 :: r) (1 + a + b) (by rw [List.length_cons]; omega)
    rw [List.length_cons] at this
    rw [this, show 1 + a + b = a + b + 1 by omega, List.drop_succ_cons, List.drop_drop]
  have hI2 : (1 + (a : Int) + (b : Int)).toNat = 1 + a + b := by omega
  obtain ⟨p, hp⟩ : ∃ p, (CodeM.zag v == q) = p := ⟨_, rfl⟩
  have HE : Box (∀ (n : Nat), PP (.returned (.tuple #[.int .i64 (CodeM.zag u), .string (BA ((r.drop a).drop b)), .bool p])) (w.drewN n)) := ⟨fun n => by
    rw [← HPP.out]
    refine ⟨_, _, p, rfl, (fun h => ?_), (fun h => ?_), n, rfl⟩
    · unfold headed
      dsimp only
      rw [if_neg (by simp), hx]
      dsimp only
      rw [if_neg (by simp), hy]
      dsimp only
      rw [if_pos ⟨rfl, by rw [h] at hp; simpa using hp⟩, BA_list]
    · unfold headed
      dsimp only
      rw [if_neg (by simp), hx]
      dsimp only
      rw [if_neg (by simp), hy]
      dsimp only
      rw [if_neg (fun h2 => by rw [h] at hp; simp at hp; exact hp h2.2)]⟩
  clear hx hy ht ht2
  generalize BA ((r.drop a).drop b) = R3 at *
  generalize BA [1] = M at *
  generalize BA (r.drop a) = R2 at *
  generalize BA r = R at *
  generalize BA (1 :: r) = S at *
  generalize CodeM.zag u = z at *
  generalize CodeM.zag v = y at *
  go_enter Tryd.func33, Tryd.ntmps33
  go_wp2_with fail
  refine HG.out.mono ?_
  rintro e w' ⟨rfl, rfl⟩
  go_wp2_with fail
  refine HG2.out.mono ?_
  rintro e w' ⟨rfl, rfl⟩
  clear HG HG2
  go_wp2_with fail
  cases p with
  | false =>
    go_quiet (fail)
    go_wp2_with fail
    exact HE.out _
  | true =>
    go_quiet (fail)
    go_wp2_with fail
    exact HE.out _
end Go.Proofs.YtpeaefeoogcepaaDoor
