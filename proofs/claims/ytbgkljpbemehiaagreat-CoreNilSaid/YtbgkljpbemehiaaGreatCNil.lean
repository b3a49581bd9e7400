/-
  PROVED: for every input 'millracelaw16.CoreNil' returns true, and its arguments read afterwards as they read before. CONDITIONS: none. The run is walked once with known values (the arguments' cells unknown), by a walker that is proved to follow the machine.
-/
import Derived.Test.YtbgkljpbemehiaaGreatRows
import Derived.Test.YtbgkljpbemehiaaGreatChecked
import Derived.Test.YtbgkljpbemehiaaGreatVB
namespace Go.Proofs.YtbgkljpbemehiaaGreat
open Go.ChangeShapes Go.WideShapes Go.ChangeAt Go.RowKit
set_option maxRecDepth 100000

theorem coreNil_run : Sx.goodA Tryz.prog Sx.isT 14 6 (Sx.shpL Tryz.prog Tryz.f6.params.toList 0) = true := by decide +kernel

theorem coreNil_lifted (os : Os) (started : os.Started) (H : Type) (enc : TypeId × Value → H) :
    ReturnsInHanded {} Tryz.checked os 6 .any (Rows.coreNilSpec.pre6 enc Tryz.prog Tryz.f6 Rows.coreNilRow.domain false) (Rows.coreNilSpec.post enc Tryz.prog Tryz.f6 false true false false) := by
  refine returnsInHanded_of_change (C := Tryz.checked) (by kernel_rfl) started (by kernel_rfl) Tryz.func6
    (ChangeSpec.witness6 (enc := enc) (C := Tryz.checked) false ⟨#[], #[.int .i64 0, .agg #[.int .i64 0, .int .i64 0, .int .i64 0, .int .i64 0, .int .i64 0, .int .i64 0], .agg #[.int .i64 0, .int .i64 0, .slice none 0 0, .int .i64 0, .int .i64 0]], []⟩ 8 (by kernel_rfl) (by kernel_rfl) (by kernel_rfl) (by kernel_rfl)) ?_
  intro W base args ds gs before hval hW _ _
  exact Sx.contract_true (by kernel_rfl) (by kernel_rfl) (by kernel_rfl) rfl (rt := 4) (by kernel_rfl) Tryz.underlying4
    (fun ds hl => by match ds, hl with | [d1, d2, d3], _ => rfl) coreNil_run hval hW

theorem coreNil_holds : Rows.CoreNilSaid :=
  OpenClaim.holds_of_wide 6 Tryz.f6 rfl rfl rfl rfl rfl rfl rfl ⟨rfl, rfl, rfl, rfl, rfl⟩ rfl rfl rfl rfl rfl (by kernel_rfl) Tryz.func6 (by kernel_rfl)
    (of_decide_eq_true (by kernel_rfl)) (by unfold Func.isWrapper; first | (rw [if_pos (by decide +kernel)]; kernel_rfl) | (rw [if_neg (by decide +kernel)]; exact ⟨rfl, rfl⟩))
    (fun os started H enc _ => coreNil_lifted os started H enc)

end Go.Proofs.YtbgkljpbemehiaaGreat
