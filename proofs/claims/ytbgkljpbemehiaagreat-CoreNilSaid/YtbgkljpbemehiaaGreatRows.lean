/-
  No cell of these rows narrows 'for every input' (looked for: loops, veiled, ifaces, maps, wideKeys, modest, calm, conditions, laid).
  DERIVED. THE GIVEN ROWS OF THIS SEAT. 5 by the template 'for every input the law returns true; each argument reads behind the call as it read before'; 0 by the template 'total and deterministic' (their statements: YtbgkljpbemehiaaGreatTotals.lean).
  GIVEN WITH THE SEED: the statements are not yours to turn. If you find one false, say at which input.
  Laid BY PROGRAM, IN A SANDBOX (cutbox-rows.mjs): the forced cells as the released guide's own fill.sh prints them over the translation b3f6bd6f9baebe2f… (all of the seat's roots in one cut). By AI agents, Wed Nov 11 2026. No macro, syntax, notation, axiom, sorry.
-/
import Derived.Test.YtbgkljpbemehiaaGreatChecked
import GoSem.Claim
import GoSem.ClaimJoined
import GoSem.ClaimMapViews
import Derived.JoinedTies
import Derived.KernelRfl
namespace Go.Proofs.YtbgkljpbemehiaaGreat
/- THE CELL 'sum', in the pinned program and in every row, IS THE sha256 OF THE DUMP (.gsa) THAT YtbgkljpbemehiaaGreatProg.lean LOADS. Nothing in Lean hashes anything: it is a label: what it is worth is what the hold of that sum in a sandbox is worth. -/
noncomputable def Tryz.pinned : Pinned := { name := "ytbgkljpbemehiaagreat", sum := "b3f6bd6f9baebe2f7525080415c19b2cb4cfc7e6f6f24ffcfff4b9dfef25541c", checked := Tryz.checked }
namespace Rows
def none {H : Type} : Left H := { results := [], args := [] }

/-- 'millracelaw11.PartlogCrash': WHATEVER THE INPUT: true; the input reads as it did. -/
def partlogCrashSpec : ChangeSpec := { name := "partlogCrash", fn := fun _ => fun
  | [d] => { results := [.lit (.bool true)], args := [d] }
  | _ => none }
def partlogCrashRow : OpenClaim := { program := "ytbgkljpbemehiaagreat", sum := "b3f6bd6f9baebe2f7525080415c19b2cb4cfc7e6f6f24ffcfff4b9dfef25541c", func := "millrace/millracelaw11.PartlogCrash", spec := "partlogCrash", unfollowed := true, recurses := true, apart := false }
def PartlogCrashSaid : Prop := partlogCrashRow.holds Tryz.pinned (OpenSpec.ofChange partlogCrashSpec)

/-- ITS FALSE NEIGHBOUR: 'it returns false'. Refute it at one input. -/
def partlogCrashWrong : ChangeSpec := { name := "partlogCrash", fn := fun _ => fun
  | [d] => { results := [.lit (.bool false)], args := [d] }
  | _ => none }
def PartlogCrashWrongFalsely : Prop := partlogCrashRow.holds Tryz.pinned (OpenSpec.ofChange partlogCrashWrong)

/-- 'millracelaw11.PartlogNil': WHATEVER THE INPUT: true; the input reads as it did. -/
def partlogNilSpec : ChangeSpec := { name := "partlogNil", fn := fun _ => fun
  | [d] => { results := [.lit (.bool true)], args := [d] }
  | _ => none }
def partlogNilRow : OpenClaim := { program := "ytbgkljpbemehiaagreat", sum := "b3f6bd6f9baebe2f7525080415c19b2cb4cfc7e6f6f24ffcfff4b9dfef25541c", func := "millrace/millracelaw11.PartlogNil", spec := "partlogNil", unfollowed := true, recurses := true, apart := false }
def PartlogNilSaid : Prop := partlogNilRow.holds Tryz.pinned (OpenSpec.ofChange partlogNilSpec)

/-- ITS FALSE NEIGHBOUR: 'it returns false'. Refute it at one input. -/
def partlogNilWrong : ChangeSpec := { name := "partlogNil", fn := fun _ => fun
  | [d] => { results := [.lit (.bool false)], args := [d] }
  | _ => none }
def PartlogNilWrongFalsely : Prop := partlogNilRow.holds Tryz.pinned (OpenSpec.ofChange partlogNilWrong)

/-- 'millracelaw16.CoreTakes': WHATEVER THE INPUT: true; the input reads as it did. -/
def coreTakesSpec : ChangeSpec := { name := "coreTakes", fn := fun _ => fun
  | [d1, d2, d3] => { results := [.lit (.bool true)], args := [d1, d2, d3] }
  | _ => none }
def coreTakesRow : OpenClaim := { program := "ytbgkljpbemehiaagreat", sum := "b3f6bd6f9baebe2f7525080415c19b2cb4cfc7e6f6f24ffcfff4b9dfef25541c", func := "millrace/millracelaw16.CoreTakes", spec := "coreTakes", inPlace := ["sync/atomic.StoreInt64", "sync/atomic.LoadInt64", "sync/atomic.CompareAndSwapInt64"], unfollowed := true, recurses := true, apart := false }
def CoreTakesSaid : Prop := coreTakesRow.holds Tryz.pinned (OpenSpec.ofChange coreTakesSpec)

/-- ITS FALSE NEIGHBOUR: 'it returns false'. Refute it at one input. -/
def coreTakesWrong : ChangeSpec := { name := "coreTakes", fn := fun _ => fun
  | [d1, d2, d3] => { results := [.lit (.bool false)], args := [d1, d2, d3] }
  | _ => none }
def CoreTakesWrongFalsely : Prop := coreTakesRow.holds Tryz.pinned (OpenSpec.ofChange coreTakesWrong)

/-- 'millracelaw16.CoreNil': WHATEVER THE INPUT: true; the input reads as it did. -/
def coreNilSpec : ChangeSpec := { name := "coreNil", fn := fun _ => fun
  | [d1, d2, d3] => { results := [.lit (.bool true)], args := [d1, d2, d3] }
  | _ => none }
def coreNilRow : OpenClaim := { program := "ytbgkljpbemehiaagreat", sum := "b3f6bd6f9baebe2f7525080415c19b2cb4cfc7e6f6f24ffcfff4b9dfef25541c", func := "millrace/millracelaw16.CoreNil", spec := "coreNil", inPlace := ["sync/atomic.StoreInt64", "sync/atomic.LoadInt64", "sync/atomic.CompareAndSwapInt64"], unfollowed := true, recurses := true, apart := false }
def CoreNilSaid : Prop := coreNilRow.holds Tryz.pinned (OpenSpec.ofChange coreNilSpec)

/-- ITS FALSE NEIGHBOUR: 'it returns false'. Refute it at one input. -/
def coreNilWrong : ChangeSpec := { name := "coreNil", fn := fun _ => fun
  | [d1, d2, d3] => { results := [.lit (.bool false)], args := [d1, d2, d3] }
  | _ => none }
def CoreNilWrongFalsely : Prop := coreNilRow.holds Tryz.pinned (OpenSpec.ofChange coreNilWrong)

/-- 'millracelaw16.CoreSafe': WHATEVER THE INPUT: true; the input reads as it did. -/
def coreSafeSpec : ChangeSpec := { name := "coreSafe", fn := fun _ => fun
  | [d1, d2, d3] => { results := [.lit (.bool true)], args := [d1, d2, d3] }
  | _ => none }
def coreSafeRow : OpenClaim := { program := "ytbgkljpbemehiaagreat", sum := "b3f6bd6f9baebe2f7525080415c19b2cb4cfc7e6f6f24ffcfff4b9dfef25541c", func := "millrace/millracelaw16.CoreSafe", spec := "coreSafe", inPlace := ["sync/atomic.StoreInt64", "sync/atomic.LoadInt64", "sync/atomic.CompareAndSwapInt64"], unfollowed := true, recurses := true, apart := false }
def CoreSafeSaid : Prop := coreSafeRow.holds Tryz.pinned (OpenSpec.ofChange coreSafeSpec)

/-- ITS FALSE NEIGHBOUR: 'it returns false'. Refute it at one input. -/
def coreSafeWrong : ChangeSpec := { name := "coreSafe", fn := fun _ => fun
  | [d1, d2, d3] => { results := [.lit (.bool false)], args := [d1, d2, d3] }
  | _ => none }
def CoreSafeWrongFalsely : Prop := coreSafeRow.holds Tryz.pinned (OpenSpec.ofChange coreSafeWrong)

/- THE SECOND FORM. 'bulk': how many values and letters a reading holds, each counted each time it is reached (what is shared counts as often as it is met; a slice's spare places count too). A statement '..UptoSaid' is the law's where the arguments, and the package variables that the reading takes, are together of bulk at most 1048576: NARROWER than '..Said'. Prove '..Said' where nothing that the law and all that it calls make is longer than what came in: it says more and counts as full. Else prove '..UptoSaid'. A law counts once. -/
mutual
def uptoBulk {H : Type} : DataW H → Nat
  | .lit (.string bytes) => bytes.length + 1
  | .lit _ => 1
  | .nil => 1
  | .ptr d => uptoBulk d + 1
  | .slice elems spare => uptoBulkAll elems + uptoBulkAll spare + 1
  | .agg parts => uptoBulkAll parts + 1
  | .iface _ d => uptoBulk d + 1
  | .map entries => uptoBulkEntries entries + 1
  | .held _ => 1
def uptoBulkAll {H : Type} : List (DataW H) → Nat
  | [] => 0
  | d :: r => uptoBulk d + uptoBulkAll r
def uptoBulkEntries {H : Type} : List (Lit × DataW H) → Nat
  | [] => 0
  | x :: r => uptoBulkEntry x + uptoBulkEntries r
def uptoBulkEntry {H : Type} : Lit × DataW H → Nat
  | (.string bytes, d) => bytes.length + uptoBulk d + 1
  | (_, d) => uptoBulk d + 1
 end
def uptoSmall : (H : Type) → List (DataW H) → Bool := fun _ ds => decide (uptoBulkAll ds ≤ 1048576)
def OpenSpec.upto (s : _root_.Go.ChangeSpec) : _root_.Go.OpenSpec := { _root_.Go.OpenSpec.ofChange s with cond := some uptoSmall }

/-- 'millracelaw11.PartlogCrash', WHERE WHAT IT READS IS OF BULK AT MOST 1048576: true; the input reads as it did. -/
def partlogCrashUptoRow : OpenClaim := { program := "ytbgkljpbemehiaagreat", sum := "b3f6bd6f9baebe2f7525080415c19b2cb4cfc7e6f6f24ffcfff4b9dfef25541c", func := "millrace/millracelaw11.PartlogCrash", spec := "partlogCrash", unfollowed := true, recurses := true, apart := false, narrowed := true }
def PartlogCrashUptoSaid : Prop := partlogCrashUptoRow.holds Tryz.pinned (OpenSpec.upto partlogCrashSpec)

/-- 'millracelaw11.PartlogNil', WHERE WHAT IT READS IS OF BULK AT MOST 1048576: true; the input reads as it did. -/
def partlogNilUptoRow : OpenClaim := { program := "ytbgkljpbemehiaagreat", sum := "b3f6bd6f9baebe2f7525080415c19b2cb4cfc7e6f6f24ffcfff4b9dfef25541c", func := "millrace/millracelaw11.PartlogNil", spec := "partlogNil", unfollowed := true, recurses := true, apart := false, narrowed := true }
def PartlogNilUptoSaid : Prop := partlogNilUptoRow.holds Tryz.pinned (OpenSpec.upto partlogNilSpec)

/-- 'millracelaw16.CoreTakes', WHERE WHAT IT READS IS OF BULK AT MOST 1048576: true; the input reads as it did. -/
def coreTakesUptoRow : OpenClaim := { program := "ytbgkljpbemehiaagreat", sum := "b3f6bd6f9baebe2f7525080415c19b2cb4cfc7e6f6f24ffcfff4b9dfef25541c", func := "millrace/millracelaw16.CoreTakes", spec := "coreTakes", inPlace := ["sync/atomic.StoreInt64", "sync/atomic.LoadInt64", "sync/atomic.CompareAndSwapInt64"], unfollowed := true, recurses := true, apart := false, narrowed := true }
def CoreTakesUptoSaid : Prop := coreTakesUptoRow.holds Tryz.pinned (OpenSpec.upto coreTakesSpec)

/-- 'millracelaw16.CoreNil', WHERE WHAT IT READS IS OF BULK AT MOST 1048576: true; the input reads as it did. -/
def coreNilUptoRow : OpenClaim := { program := "ytbgkljpbemehiaagreat", sum := "b3f6bd6f9baebe2f7525080415c19b2cb4cfc7e6f6f24ffcfff4b9dfef25541c", func := "millrace/millracelaw16.CoreNil", spec := "coreNil", inPlace := ["sync/atomic.StoreInt64", "sync/atomic.LoadInt64", "sync/atomic.CompareAndSwapInt64"], unfollowed := true, recurses := true, apart := false, narrowed := true }
def CoreNilUptoSaid : Prop := coreNilUptoRow.holds Tryz.pinned (OpenSpec.upto coreNilSpec)

/-- 'millracelaw16.CoreSafe', WHERE WHAT IT READS IS OF BULK AT MOST 1048576: true; the input reads as it did. -/
def coreSafeUptoRow : OpenClaim := { program := "ytbgkljpbemehiaagreat", sum := "b3f6bd6f9baebe2f7525080415c19b2cb4cfc7e6f6f24ffcfff4b9dfef25541c", func := "millrace/millracelaw16.CoreSafe", spec := "coreSafe", inPlace := ["sync/atomic.StoreInt64", "sync/atomic.LoadInt64", "sync/atomic.CompareAndSwapInt64"], unfollowed := true, recurses := true, apart := false, narrowed := true }
def CoreSafeUptoSaid : Prop := coreSafeUptoRow.holds Tryz.pinned (OpenSpec.upto coreSafeSpec)

end Rows
end Go.Proofs.YtbgkljpbemehiaaGreat
