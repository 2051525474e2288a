/- lock.Ask, lock.Drop at tables that Check lets by: what a law needs to know. -/
import Derived.Test.YtjbmkhalmmahkaaLkAsk
import Derived.Test.YtjbmkhalmmahkaaLkDropW
import Derived.Test.YtjbmkhalmmahkaaLkGl
namespace Go.Proofs.Ytjbmkhalmmahkaa
open Go.RowKit Go.Lib

namespace LkM
/-- What Ask answers at a good table. -/
def AskG (w : World) (e : Ending) (w' : World) : Prop :=
  Below w.heap.size w w' ∧ ∃ t' ao cap b c, e = .returned (.tuple #[.slice ao t'.length cap, .bool b, .int .i64 c]) ∧ Good t' ∧ LisIn w' 0 ao t'
/-- What Drop answers at a good table. -/
structure DropF (t : List LiM) (tx : Int) (t' : List LiM) (g : List Int) (c : Int) : Prop where
  good : Good t'
  yes : 0 ≤ tx ∧ tx < 12 → c = 0
  gone : c = 0 → (∀ x ∈ t', ∀ y ∈ x.held ++ x.queue, y.tx ≠ tx) ∧ tx ∉ g ∧ ∀ z, named t' z → named t z
  none : c ≠ 0 → t' = [] ∧ g = []
  len : g.length ≤ 1000
def DropG (t : List LiM) (tx : Int) (w : World) (e : Ending) (w' : World) : Prop :=
  Below w.heap.size w w' ∧ ∃ t' g ao cap ga gc c, e = .returned (.tuple #[.slice ao t'.length cap, .slice ga g.length gc, .int .i64 c]) ∧ DropF t tx t' g c ∧ LisIn w' 0 ao t' ∧ IntsAt w' ga g
end LkM
theorem ask_g (t : List LiM) (ao : Option Addr) (cap lo : Nat) (tx item mode : Int) (w : World) (h : LisIn w lo ao t) (hg : LkM.Good t) :
    Calls Try.prog 6 #[.slice ao t.length cap, .int .i64 tx, .int .i64 item, .int .i64 mode] w (LkM.AskG w) := by
  refine (ask_any t ao cap lo tx item mode w h hg.small).mono ?_
  rintro e w' ⟨hb, ⟨h1, rfl⟩ | ⟨h1, ao', cap', rfl, h2⟩⟩
  · exact ⟨hb, [], none, 0, _, _, rfl, LkM.Good.nil, Or.inl rfl⟩
  · refine ⟨hb, _, ao', cap', _, _, rfl, ?_, h2.mono (Nat.zero_le _)⟩
    unfold LkM.askE at h1
    rw [if_neg (by rw [LkM.check_iff.2 hg]; simp)] at h1
    split at h1
    · cases h1
    rename_i h3
    split at h1
    · cases h1
    rename_i h4
    have hm : 1 ≤ mode ∧ mode ≤ 5 := Classical.byContradiction fun hn => h3 (Or.inr (Or.inr (Or.inr (Or.inr hn))))
    exact LkM.ask_good (a := ⟨tx, mode⟩) ⟨by show 0 ≤ tx; omega, by show tx < 12; omega, hm⟩ ⟨by omega, by omega⟩ hg (by simpa using h4)
theorem drop_g (t : List LiM) (ao : Option Addr) (cap lo : Nat) (tx : Int) (w : World) (h : LisIn w lo ao t) (hg : LkM.Good t) :
    Calls Try.prog 9 #[.slice ao t.length cap, .int .i64 tx] w (LkM.DropG t tx w) := by
  refine (drop_any t ao cap lo tx w h hg.small).mono ?_
  rintro e w' ⟨hb, ⟨h1, rfl⟩ | ⟨h1, ao', cap', ga, gc, rfl, h2, h3, _⟩⟩
  · refine ⟨hb, [], [], none, 0, none, 0, _, rfl, ⟨LkM.Good.nil, fun hn => absurd ?_ h1, fun hn => absurd hn h1, fun _ => ⟨rfl, rfl⟩, by simp⟩, Or.inl rfl, Or.inl rfl⟩
    unfold LkM.dropE
    rw [if_neg (by rw [LkM.check_iff.2 hg]; simp), if_neg (by omega)]
  · obtain ⟨g1, g2, g3, g4⟩ := LkM.drop_ok hg tx
    exact ⟨hb, _, _, ao', cap', ga, gc, _, rfl, ⟨g1, fun _ => rfl, fun _ => ⟨g2, g3, g4⟩, fun hn => absurd rfl hn, LkM.drop_len hg tx⟩, h2.mono (Nat.zero_le _), h3⟩
theorem check_g (t : List LiM) (ao : Option Addr) (cap lo : Nat) (w : World) (h : LisIn w lo ao t) (hg : LkM.Good t) :
    Calls Try.prog 19 #[.slice ao t.length cap] w fun e w' => e = .returned (.int .i64 0) ∧ Below w.heap.size w w' := by
  refine (lockCheck_any t ao cap lo w h hg.small).mono ?_
  rintro e w' ⟨rfl, hb⟩
  exact ⟨by rw [LkM.check_iff.2 hg], hb⟩
/-- The first table of the laws. -/
theorem ask_nil (cap : Nat) (tx item mode : Int) (w : World) (h : 0 ≤ tx ∧ tx < 12 ∧ 0 ≤ item ∧ item < 20 ∧ 1 ≤ mode ∧ mode ≤ 5) :
    Calls Try.prog 6 #[.slice none 0 cap, .int .i64 tx, .int .i64 item, .int .i64 mode] w fun e w' => Below w.heap.size w w' ∧ ∃ ao cap', e = .returned (.tuple #[.slice ao 1 cap', .bool true, .int .i64 0]) ∧ LisIn w' w.heap.size ao [⟨item, [⟨tx, mode⟩], []⟩] := by
  have hE : LkM.askE [] tx item mode = 0 := by
    unfold LkM.askE
    rw [if_neg (by rw [LkM.check_iff.2 LkM.Good.nil]; simp), if_neg (by omega), if_neg (by simp [LkM.waiting])]
  refine (ask_any [] none cap 0 tx item mode w (Or.inl rfl) LkM.Good.nil.small).mono ?_
  rintro e w' ⟨hb, ⟨h1, _⟩ | ⟨_, ao', cap', rfl, h2⟩⟩
  · exact absurd hE h1
  · exact ⟨hb, ao', cap', rfl, h2⟩
end Go.Proofs.Ytjbmkhalmmahkaa
