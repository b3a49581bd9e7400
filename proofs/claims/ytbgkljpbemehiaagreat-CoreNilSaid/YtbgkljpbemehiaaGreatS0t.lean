/- Facts of types, as classes. No condition. -/
import GoSem.Core.View
namespace Go.Proofs.YtbgkljpbemehiaaGreat.Sx

variable {Pr : Program}

/-! ### facts of types -/
class TU (Pr : Program) (t : TypeId) (d : outParam TypeDesc) : Prop where h : Pr.underlying t = some d
def aggD : TypeDesc → Bool
  | .struct _ | .array _ _ => true
  | _ => false
/-- a type of one cell -/
class T1 (Pr : Program) (t : TypeId) : Prop where h : (Pr.underlying t).map aggD = some false ∧ (Pr.info? t).map (·.size) = some 1
/-- a struct or an array of n cells -/
class TA (Pr : Program) (t : TypeId) (n : outParam Nat) : Prop where h : (Pr.underlying t).map aggD = some true ∧ (Pr.info? t).map (·.size) = some n
/-- the cells of its zero value -/
class TZ (Pr : Program) (t : TypeId) (z : outParam (List Value)) : Prop where h : (Pr.info? t).bind (fun i => i.zero.map Value.cells) = some z.toArray
def fieldOf (Pr : Program) (s f : Nat) : Option (Nat × Nat) :=
  match Pr.underlying s with
  | some (.struct fs) => (fs[f]?).map fun d => (d.offset, d.type)
  | _ => none
class TF (Pr : Program) (s f : Nat) (off ft : outParam Nat) : Prop where h : fieldOf Pr s f = some (off, ft) ∧ ((Pr.info? ft).map fun i => decide (i.size = 0)) = some false
/-- a slice's type: of what, of how many cells and bytes -/
class TS (Pr : Program) (t : TypeId) (e sz bytes : outParam Nat) : Prop where h : Pr.underlying t = some (.slice e) ∧ (Pr.info? e).map (fun i => (i.size, i.bytes)) = some (sz, bytes)
def structOf (Pr : Program) (t : TypeId) : Option (List (Nat × Nat)) :=
  match Pr.underlying t with
  | some (.struct fs) => fs.toList.mapM fun d => (Pr.info? d.type).map fun i => (d.offset, i.size)
  | _ => none
/-- a struct's type: its zero cells; each field's place and size -/
class TB (Pr : Program) (t : TypeId) (z : outParam (List Value)) (fl : outParam (List (Nat × Nat))) : Prop where h : structOf Pr t = some fl ∧ (Pr.info? t).bind (fun i => i.zero.map Value.cells) = some z.toArray

class TZn (Pr : Program) (t : Nat) (n : outParam Nat) : Prop where h : (Pr.info? t).map (·.size) = some n
class TUs (Pr : Program) (t : Nat) : Prop where h : (Pr.underlying t).isSome = true
def slD : TypeDesc → Bool
  | .slice _ => true
  | _ => false
class TSl (Pr : Program) (t : Nat) : Prop where h : (Pr.underlying t).map slD = some true
def ifD : TypeDesc → Bool
  | .interface _ => true
  | _ => false
class TN (Pr : Program) (t : Nat) : Prop where h : (Pr.underlying t).map ifD = some false
/-- an array's type: how many, of what, of how many cells -/
class TAr (Pr : Program) (t : Nat) (n e sz : outParam Nat) : Prop where h : Pr.underlying t = some (.array n e) ∧ (Pr.info? e).map (·.size) = some sz
class TIf (Pr : Program) (t : Nat) : Prop where h : (Pr.underlying t).map ifD = some true


end Go.Proofs.YtbgkljpbemehiaaGreat.Sx
