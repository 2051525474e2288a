/- wal: a sector's head, a record's sectors, an anchor: walked. -/
import Derived.Test.YtpeaefeoogcepaaDoorWalM
import Derived.Test.YtpeaefeoogcepaaDoorCode
import Derived.Test.YtpeaefeoogcepaaDoorFoldPut
import Derived.Test.YtpeaefeoogcepaaDoorSectW
import Derived.Deep.AppendLies
import Derived.Deep.DeepMust
namespace Go.Proofs.YtpeaefeoogcepaaDoor
open Go.RowKit Go.Lib

namespace WalM
/-- Bytes as a string. -/
def BA (l : List UInt8) : ByteArray := ⟨l.toArray⟩
theorem BA_list (l : List UInt8) : (BA l).data.toList = l := by simp [BA]
theorem BA_size (l : List UInt8) : (BA l).size = l.length := rfl
theorem BA_append (a b : List UInt8) : BA a ++ BA b = BA (a ++ b) := by
  rw [BA, FoldSum.mk_append]; simp [BA]
theorem BA_of (s : ByteArray) : BA s.data.toList = s := by simp [BA]
theorem BA_empty {l : List UInt8} (h : l = []) : (BA l).toList.isEmpty = true := by subst h; rw [ByteArray.toList_eq]; rfl
theorem BA_full {l : List UInt8} (h : l ≠ []) : (BA l).toList.isEmpty = false := by
  rw [ByteArray.toList_eq, BA_list]
  cases l with
  | nil => exact absurd rfl h
  | cons => rfl
theorem take_min (l : List UInt8) (a : Nat) : l.take (min a l.length) = l.take a := by
  by_cases h : a ≤ l.length
  · rw [Nat.min_eq_left h]
  · rw [Nat.min_eq_right (by omega), List.take_length, List.take_of_length_le (by omega)]
theorem drop_min (l : List UInt8) (a : Nat) : l.drop (min a l.length) = l.drop a := by
  by_cases h : a ≤ l.length
  · rw [Nat.min_eq_left h]
  · rw [Nat.min_eq_right (by omega), List.drop_length, List.drop_of_length_le (by omega)]
theorem BA_take (l : List UInt8) (n : Nat) : (BA l).extract 0 n = BA (l.take n) := by
  have := CodeM.extract_eq (BA l) 0 n
  rw [Nat.zero_add] at this
  rw [this, BA_list, List.drop_zero]; rfl
theorem BA_drop (l : List UInt8) (k : Nat) (h : k ≤ l.length) : (BA l).extract k l.length = BA (l.drop k) := by
  have := CodeM.extract_eq (BA l) k (l.length - k)
  rw [show k + (l.length - k) = l.length by omega] at this
  rw [this, BA_list, List.take_of_length_le (by rw [List.length_drop]; omega)]; rfl
end WalM
open WalM

set_option maxHeartbeats 1000000 in
theorem walHead_any (m : UInt8) (e q : Int) (w : World) (he : I64 e) (hq : I64 q) :
    Calls Tryd.prog 28 #[.string ⟨#[m]⟩, .int .i64 e, .int .i64 q] w fun x w' => x = .returned (.string (BA (head m e q))) ∧ Below w.heap.size w w' := by
  have l1 := (CodeM.put_len (CodeM.zig e)).2
  have l2 := (CodeM.put_len (CodeM.zig q)).2
  have he' := box he; have hq' := box hq
  have HX : Box (BA (head m e q) = (⟨#[m]⟩ ++ BA (CodeM.putNat (CodeM.zig e))) ++ BA (CodeM.putNat (CodeM.zig q))) := ⟨by
    rw [show (⟨#[m]⟩ : ByteArray) = BA [m] from rfl, BA_append, BA_append]; rfl⟩
  clear he hq
  obtain ⟨x, hx⟩ : ∃ x, Box (BA (CodeM.putNat (CodeM.zig e)) = x) := ⟨_, ⟨rfl⟩⟩
  obtain ⟨y, hy⟩ : ∃ x, Box (BA (CodeM.putNat (CodeM.zig q)) = x) := ⟨_, ⟨rfl⟩⟩
  have hxs : x.size ≤ 10 := by rw [← hx.out, BA_size]; exact l1
  have hys : y.size ≤ 10 := by rw [← hy.out, BA_size]; exact l2
  rw [hx.out, hy.out] at HX
  have hms : (⟨#[m]⟩ : ByteArray).size = 1 := rfl
  generalize (⟨#[m]⟩ : ByteArray) = M at *
  go_enter Tryd.func28, Tryd.ntmps28
  go_wp2_with fail
  refine (putInt_any e _ he'.out.1 he'.out.2).mono ?_
  rw [show (⟨(CodeM.putNat (CodeM.zig e)).toArray⟩ : ByteArray) = x from hx.out]
  rintro r w1 ⟨rfl, hb1⟩
  have HB1 := box hb1
  clear hb1
  go_wp2_with fail
  refine (putInt_any q _ hq'.out.1 hq'.out.2).mono ?_
  rw [show (⟨(CodeM.putNat (CodeM.zig q)).toArray⟩ : ByteArray) = y from hy.out]
  rintro r w2 ⟨rfl, hb2⟩
  have HB2 := box (below_tr HB1.out hb2)
  clear hb2 HB1
  have hsz : (M ++ x).size = M.size + x.size := ByteArray.size_append
  go_wp2_with fail
  go_ret
  exact ⟨congrArg (fun x => Ending.returned (.string x)) HX.out.symm, HB2.out⟩

theorem anchor_len (e : Int) : (fold (CodeM.putNat (CodeM.zig e))).length ≤ 14 := by
  have := (CodeM.put_len (CodeM.zig e)).2
  rw [fold_len]; omega
namespace WalM
/-- An anchor's text. -/
def anchor (e : Int) : List UInt8 := 3 :: fold (CodeM.putNat (CodeM.zig e))
end WalM
set_option maxHeartbeats 1000000 in
theorem walAnchor_any (e : Int) (w : World) (he : I64 e) :
    Calls Tryd.prog 32 #[.int .i64 e] w fun x w' => x = .returned (.string (BA (anchor e))) ∧ Below w.heap.size w w' := by
  have l1 := (CodeM.put_len (CodeM.zig e)).2
  have he' := box he
  have hl := anchor_len e
  have HX : Box (BA (anchor e) = ⟨#[3]⟩ ++ BA (fold (CodeM.putNat (CodeM.zig e)))) := ⟨by
    rw [show (⟨#[3]⟩ : ByteArray) = BA [3] from rfl, BA_append]; rfl⟩
  have HP := box (fun (w : World) => put_any (BA (CodeM.putNat (CodeM.zig e))) w (by rw [BA_size]; omega))
  rw [BA_list] at HP
  clear he
  obtain ⟨x, hx⟩ : ∃ x, Box (BA (CodeM.putNat (CodeM.zig e)) = x) := ⟨_, ⟨rfl⟩⟩
  obtain ⟨y, hy⟩ : ∃ x, Box (BA (fold (CodeM.putNat (CodeM.zig e))) = x) := ⟨_, ⟨rfl⟩⟩
  have hxs : x.size ≤ 10 := by rw [← hx.out, BA_size]; exact l1
  have hys : y.size ≤ 14 := by rw [← hy.out, BA_size]; exact hl
  rw [hy.out] at HX
  rw [hx.out, show (⟨(CodeM.putNat (CodeM.zig e) ++ FoldSum.tail (CodeM.putNat (CodeM.zig e))).toArray⟩ : ByteArray) = y from hy.out] at HP
  go_enter Tryd.func32, Tryd.ntmps32
  go_wp2_with fail
  refine (putInt_any e _ he'.out.1 he'.out.2).mono ?_
  rw [show (⟨(CodeM.putNat (CodeM.zig e)).toArray⟩ : ByteArray) = x from hx.out]
  rintro r w1 ⟨rfl, hb1⟩
  have HB1 := box hb1
  clear hb1
  go_wp2_with fail
  refine (HP.out _).mono ?_
  rintro r w2 ⟨rfl, hb2⟩
  have HB2 := box (below_tr HB1.out hb2)
  clear hb2 HB1 HP
  go_wp2_with fail
  go_ret
  exact ⟨congrArg (fun x => Ending.returned (.string x)) HX.out.symm, HB2.out⟩

theorem Tryd.infoStrW : (Tryd.prog.info? 9).map (fun i => (i.zero, i.size, i.bytes)) = some (some (.string ⟨#[]⟩), 1, 16) := by kernel_rfl
namespace WalM
/-- Sectors as strings. -/
def secVals (l : List (List UInt8)) : List Value := l.map fun s => .string (BA s)
theorem secVals_len (l : List (List UInt8)) : (secVals l).length = l.length := by simp [secVals]
theorem cuts_grow (e q : Int) {f : Nat} {m : UInt8} {l : List UInt8} (h : l ≠ []) (hf : l.length ≤ f) :
    ∃ f', cuts e q f m l = (head m e q ++ l.take (64 - (head m e q).length)) :: cuts e q f' 2 (l.drop (64 - (head m e q).length)) ∧ (l.drop (64 - (head m e q).length)).length ≤ f' ∧ (l.drop (64 - (head m e q).length)).length < l.length := by
  have h0 : 0 < l.length := List.length_pos_iff.2 h
  have hl := head_len m e q
  obtain ⟨f, rfl⟩ : ∃ g, f = g + 1 := ⟨f - 1, by omega⟩
  refine ⟨f, by rw [cuts, if_neg h], ?_, ?_⟩ <;> rw [List.length_drop] <;> omega
def SecRel (e q : Int) (t : List UInt8) (w : World) (t9 t11 t12 : Value) (wr : World) : Prop :=
  ∃ (f : Nat) (m : UInt8) (rest : List UInt8) (done : List (List UInt8)), t9 = .string (BA rest) ∧ t12 = .string ⟨#[m]⟩ ∧ rest.length ≤ f ∧ rest.length ≤ 400 ∧ done.length + rest.length ≤ 400 ∧ done ++ cuts e q f m rest = sectors e q t ∧ wr.ownsRow w.heap.size 9 1 t11 done.length (secVals done) ∧ Below w.heap.size w wr
end WalM
set_option maxHeartbeats 4000000 in
theorem walSectors_any (e q : Int) (t : List UInt8) (w : World) (he : I64 e) (hq : I64 q) (ht : t.length ≤ 300) :
    Calls Tryd.prog 16 #[.int .i64 e, .int .i64 q, .string (BA t)] w fun x w' => ∃ v, x = .returned v ∧ w'.ownsRow w.heap.size 9 1 v (sectors e q t).length (secVals (sectors e q t)) ∧ Below w.heap.size w w' := by
  obtain ⟨i0, hi0, hz0, hz1, hz2⟩ := info_parts Tryd.infoStrW
  have HPt := box (fun (w : World) => putText_any (BA t) w (by rw [BA_size]; omega))
  rw [BA_list] at HPt
  have hbl := body_len t
  have hpl := CodeM.put_len t.length
  have hpt : (CodeM.putText t).length = (CodeM.putNat t.length).length + t.length := List.length_append
  have HP := box (fun (w : World) => put_any (BA (CodeM.putText t)) w (by rw [BA_size]; omega))
  rw [BA_list] at HP
  have HHd := box (fun (m : UInt8) (w : World) => walHead_any m e q w he hq)
  obtain ⟨x, hx⟩ : ∃ x, Box (BA (CodeM.putText t) = x) := ⟨_, ⟨rfl⟩⟩
  rw [show (⟨(CodeM.putText t).toArray⟩ : ByteArray) = x from hx.out] at HPt
  rw [hx.out, show (⟨(CodeM.putText t ++ FoldSum.tail (CodeM.putText t)).toArray⟩ : ByteArray) = BA (body t) from rfl] at HP
  have HSt : Box (∀ wr, Below w.heap.size w wr → SecRel e q t w (.string (BA (body t))) (.slice none 0 0) (.string ⟨#[1]⟩) wr) := ⟨fun wr hb => ⟨(body t).length, 1, body t, [], rfl, rfl, Nat.le_refl _, by omega, by simp; omega, rfl, World.ownsRow_nil _ _ _ _, hb⟩⟩
  obtain ⟨b, hb⟩ : ∃ x, Box (BA (body t) = x) := ⟨_, ⟨rfl⟩⟩
  rw [hb.out] at HP HSt
  obtain ⟨T, hT⟩ : ∃ x, Box (BA t = x) := ⟨_, ⟨rfl⟩⟩
  rw [hT.out] at HPt ⊢
  clear hbl hpl hpt he hq
  go_enter Tryd.func16, Tryd.ntmps16
  go_wp2_with fail
  refine (HPt.out _).mono ?_
  rintro r w1 ⟨rfl, hb1⟩
  have HB1 := box hb1
  clear hb1 HPt
  go_wp2_with fail
  refine (HP.out _).mono ?_
  rintro r w2 ⟨rfl, hb2⟩
  have HB2 := box (below_tr HB1.out hb2)
  clear hb2 HB1 HP
  go_wp2_with fail
  go_loopw [9, 11, 12] (fun t9 t11 t12 wr => SecRel e q t w t9 t11 t12 wr) (fun t9 _ _ _ => match t9 with | .string s => s.size | _ => 0)
  case atStart => exact HSt.out _ HB2.out
  case round =>
    obtain ⟨f, m, rest, done, rfl, rfl, h1, h2, h3, h4, hown, hbw⟩ := hrel
    have HBw := box hbw
    have hsz := hbw.size
    by_cases hr : rest = []
    · have q1 := BA_empty hr
      have q2 : (!(BA rest).toList.isEmpty) = false := by rw [q1]; rfl
      have e4 : done = sectors e q t := by
        rw [← h4, hr]
        cases f <;> simp [cuts]
      rw [e4] at hown
      obtain ⟨g, gc, u11', rfl⟩ : ∃ (g : Option Addr) (gc : Nat) (n : Nat), u11 = .slice g n gc := by
        rcases hown.2 with ⟨h, _⟩ | ⟨g, cap, cur, h, _⟩ <;> exact ⟨_, _, _, h⟩
      have HO := box hown
      clear hown hbw h1 h2 h3 h4 hr e4
      generalize BA rest = S at *
      go_wp2_with fail
      go_ret
      exact ⟨_, rfl, HO.out, HBw.out⟩
    · have q1 := BA_full hr
      have q2 : (!(BA rest).toList.isEmpty) = true := by rw [q1]; rfl
      obtain ⟨f', e1, e2, e3⟩ := cuts_grow e q (m := m) hr h1
      have hhl := head_len m e q
      have hh := HHd.out m wr
      have HNx : Box (∀ (v : Value) (w3 : World), w3.ownsRow w.heap.size 9 1 v (done.length + 1) (secVals done ++ [.string (BA (head m e q ++ rest.take (64 - (head m e q).length)))]) → Below w.heap.size w w3 →
          SecRel e q t w (.string (BA (rest.drop (64 - (head m e q).length)))) v (.string ⟨#[2]⟩) w3 ∧ (rest.drop (64 - (head m e q).length)).length < rest.length) := ⟨fun v w3 k1 k2 => by
        refine ⟨⟨f', 2, _, done ++ [head m e q ++ rest.take (64 - (head m e q).length)], rfl, rfl, e2, by omega, by rw [List.length_append, List.length_singleton]; omega, ?_, ?_, k2⟩, e3⟩
        · rw [List.append_assoc]
          show done ++ (_ :: cuts e q f' 2 _) = _
          rw [← e1]; exact h4
        · rw [List.length_append, List.length_singleton]
          unfold secVals at k1 ⊢
          rw [List.map_append]
          exact k1⟩
      have HOwn := box hown
      clear e1 e2 e3 h1 h4 hbw hown
      obtain ⟨H, HH⟩ : ∃ x, Box (BA (head m e q) = x) := ⟨_, ⟨rfl⟩⟩
      obtain ⟨c, Hc⟩ : ∃ x, Box ((head m e q).length = x) := ⟨_, ⟨rfl⟩⟩
      have hHs : H.size = c := by rw [← HH.out, BA_size, Hc.out]
      rw [HH.out] at hh
      rw [Hc.out] at hhl
      have HHc := box hh
      clear hh
      obtain ⟨S, HS⟩ : ∃ x, Box (BA rest = x) := ⟨_, ⟨rfl⟩⟩
      obtain ⟨R, HRl⟩ : ∃ x, Box (rest.length = x) := ⟨_, ⟨rfl⟩⟩
      have hSs : S.size = R := by rw [← HS.out, BA_size, HRl.out]
      rw [HS.out] at q1 q2 ⊢
      rw [HRl.out] at h2 h3
      go_wp2_with fail
      refine HHc.out.mono ?_
      rintro r w4 ⟨rfl, hb4⟩
      have HB4 := box (below_tr HBw.out hb4)
      have hsz4 := HB4.out.size
      have HOw4 := box (ownsRow_below HOwn.out hb4)
      clear hb4 HHc HOwn
      obtain ⟨n, Hn⟩ : ∃ n, Box (n = min (64 - c) R) := ⟨_, ⟨rfl⟩⟩
      have hnI : (if (R : Int) < 64 - (c : Int) then (R : Int) else 64 - (c : Int)) = (n : Int) := by rw [Hn.out]; split <;> omega
      have hn64 : n ≤ 64 := by rw [Hn.out]; omega
      have hnR : n ≤ R := by rw [Hn.out]; omega
      obtain ⟨P, HP⟩ : ∃ x, Box (S.extract 0 n = x) := ⟨_, ⟨rfl⟩⟩
      obtain ⟨Q, HQ⟩ : ∃ x, Box (S.extract n R = x) := ⟨_, ⟨rfl⟩⟩
      have hP : P = BA (rest.take (64 - c)) := by
        rw [← HP.out, ← HS.out, BA_take, Hn.out, ← HRl.out, take_min]
      have hQ : Q = BA (rest.drop (64 - c)) := by
        rw [← HQ.out, ← HS.out, ← HRl.out, BA_drop _ _ (by rw [HRl.out]; exact hnR), Hn.out, ← HRl.out, drop_min]
      have hPs : P.size ≤ 64 := by rw [hP, BA_size, List.length_take]; omega
      have HNx2 : Box (∀ (v : Value) (w3 : World), w3.ownsRow w.heap.size 9 1 v (done.length + 1) (secVals done ++ [.string (H ++ P)]) → Below w.heap.size w w3 → SecRel e q t w (.string Q) v (.string ⟨#[2]⟩) w3 ∧ Q.size < R) := ⟨fun v w3 k1 k2 => by
        rw [hP, ← HH.out, BA_append] at k1
        rw [hQ, ← Hc.out, BA_size, ← HRl.out]
        rw [← Hc.out] at k1
        exact HNx.out v w3 k1 k2⟩
      have e1 := HP.out
      have e2 := HQ.out
      clear hP hQ HNx Hn HP HQ
      obtain ⟨K, HK⟩ : ∃ x, Box (done.length = x) := ⟨_, ⟨rfl⟩⟩
      rw [HK.out] at h3 HNx2 HOw4
      obtain ⟨ua, uc, rfl⟩ : ∃ (g : Option Addr) (gc : Nat), u11 = .slice g K gc := by
        rcases HOw4.out.2 with ⟨h, h0⟩ | ⟨g, cap, cur, h, _⟩
        · exact ⟨none, 0, by rw [h, h0]⟩
        · exact ⟨_, _, h⟩
      have hown5 := HOw4.out.alloc (.cells #[.string (H ++ P)] 9)
      go_wp2_with (at_builtin; go_must (refine wpList_append_lies _ rfl _ _ 22 rfl w.heap.size 9 i0 _ 1 16 Tryd.underlying22 hi0 hz0 hz1 hz2 rfl (by decide) _ _ _ rfl hown5 ⟨w4.heap.size, 0, none⟩ 1 1 [.string (H ++ P)] rfl rfl (cells_new w4 [.string (H ++ P)] 9) (by simp [Value.oneCell']) (by decide) (by unfold maxLen; omega) (by omega) (by simp; omega) (w4.heap.size + 1) (by simp) ?_))
      intro gg gcap w7 hown7 hgrow7 hat7 hlt7
      have HB7 : Box (Below w.heap.size w w7) := ⟨(HB4.out.alloc hsz4 _).grown hgrow7 (by simp; omega) (fun b hb => (HOw4.out.lt b hb).1)⟩
      have HO7 : Box (w7.ownsRow w.heap.size 9 1 (.slice (some ⟨gg, 0, none⟩) (K + 1) gcap) (K + 1) (secVals done ++ [.string (H ++ P)])) := ⟨hown7⟩
      obtain ⟨hE1, hE2⟩ := HNx2.out _ _ HO7.out HB7.out
      have HE1 := box hE1; have HE2 := box hE2
      clear hown7 hgrow7 hat7 hlt7 hown5 HNx2 HB7 HO7 HB4 HOw4 hE1 hE2
      go_wp2_with fail
      go_roundw
      case rel => exact HE1.out
      case measure => show Q.size < S.size; have := HE2.out; omega
end Go.Proofs.YtpeaefeoogcepaaDoor
