/- The victims of waiting: what they are. -/
import Derived.Test.YtnnkejolfhhmlaaGreatGrB
namespace Go.Proofs.YtnnkejolfhhmlaaGreat
namespace VicM
/-- What is left without a node. -/
def del (k : Int) (l : List EgM) : List EgM := l.filter fun e => !(e.frm == k || e.to_ == k)
/-- The victims. -/
inductive Vic (n : Nat) : List EgM → List Nat → Prop
  | done {l : List EgM} : (∀ k, ¬ GrM.Path n l k k) → Vic n l []
  | step {l : List EgM} {k : Nat} {out : List Nat} : GrM.Path n l k k → (∀ j, GrM.Path n l j j → j ≤ k) → Vic n (del k l) out → Vic n l (k :: out)
end VicM
end Go.Proofs.YtnnkejolfhhmlaaGreat
