/- The order in which a region that draws is run, worked out by program. -/
import Derived.Test.YtmipibapdgcgnaaAbDef
namespace Go.Ab
open Go

def pickFirst (n : Nat) (f : Nat → Bool) : Option Nat := (List.range n).find? f

def mkOrder (cls : List Cls) (before : List Nat) (n : Nat) : Nat → Nat → List Nat
  | 0, _ => []
  | k + 1, done =>
    let ready (i : Nat) : Bool := !Nat.testBit done i && (before.getD i 0) &&& done == before.getD i 0
    let c (i : Nat) : Cls := cls.getD i .bad
    let pr (i : Nat) : Bool := ready i && (c i == .p || c i == .r)
    let ef (i : Nat) : Bool := ready i && isEff (c i)
    let e0 := pickFirst n fun i => !Nat.testBit done i && isEff (c i)
    let al (i : Nat) : Bool := ready i && c i == .a && (match e0 with | some e => Nat.testBit (before.getD e 0) i | none => true)
    match pickFirst n pr with
    | some i => i :: mkOrder cls before n k (done ||| 2 ^ i)
    | none => match pickFirst n ef with
      | some i => i :: mkOrder cls before n k (done ||| 2 ^ i)
      | none => match pickFirst n al with
        | some i => i :: mkOrder cls before n k (done ||| 2 ^ i)
        | none => match pickFirst n ready with
          | some i => i :: mkOrder cls before n k (done ||| 2 ^ i)
          | none => []

def mkReg (P : Program) (ops : Array Oper) : Reg :=
  let before := (Region.before ops).toList
  ⟨mkOrder (ops.toList.map (clsOf P)) before ops.size ops.size 0, before⟩

/-- The regions of a text that draw. -/
def drawsOf : Code → List (Nat × Array Oper)
  | .region id ops true => [(id, ops)]
  | .seq a b => drawsOf a ++ drawsOf b
  | .cond _ a b => drawsOf a ++ drawsOf b
  | .block _ c => drawsOf c
  | .loop c => drawsOf c
  | .scope c => drawsOf c
  | .rangeFunc _ _ a b => drawsOf a ++ drawsOf b
  | _ => []

def regsOf (P : Program) : List (FuncId × List (Nat × Reg)) :=
  (P.funcs.toList.zipIdx.map fun (f, i) => (i, match f.body with | some c => (drawsOf c).map fun (id, ops) => (id, mkReg P ops) | none => [])).filter fun x => !x.2.isEmpty

end Go.Ab
