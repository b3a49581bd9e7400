/-
  PROVED: for every input 'millracelaw11.PartlogNil' returns true, and its argument reads afterwards as it read before. CONDITIONS: none. The run is walked once with known values (the argument's five cells unknown), by a walker that is proved to follow the machine.
-/
import Derived.Test.YtbgkljpbemehiaaGreatRows
import Derived.Test.YtbgkljpbemehiaaGreatChecked
import Derived.Test.YtbgkljpbemehiaaGreatVB
namespace Go.Proofs.YtbgkljpbemehiaaGreat
open Go.ChangeShapes Go.WideShapes Go.ChangeAt Go.RowKit
set_option maxRecDepth 100000

theorem partlogNil_run : Sx.goodA Tryz.prog Sx.isT 16 4 (Sx.shpL Tryz.prog Tryz.f4.params.toList 0) = true := by decide +kernel

theorem partlogNil_lifted (os : Os) (started : os.Started) (H : Type) (enc : TypeId × Value → H) :
    ReturnsInHanded {} Tryz.checked os 4 .any (Rows.partlogNilSpec.pre6 enc Tryz.prog Tryz.f4 Rows.partlogNilRow.domain false) (Rows.partlogNilSpec.post enc Tryz.prog Tryz.f4 false true false false) := by
  refine returnsInHanded_of_change (C := Tryz.checked) (by kernel_rfl) started (by kernel_rfl) Tryz.func4
    (ChangeSpec.witness6 (enc := enc) (C := Tryz.checked) false ⟨#[], #[.agg #[.int .i64 0, .string ⟨#[]⟩, .int .i64 0, .int .i64 0, .slice none 0 0]], []⟩ 8 (by kernel_rfl) (by kernel_rfl) (by kernel_rfl) (by kernel_rfl)) ?_
  intro W base args ds gs before hval hW _ _
  exact Sx.contract_true (by kernel_rfl) (by kernel_rfl) (by kernel_rfl) rfl (rt := 4) (by kernel_rfl) Tryz.underlying4
    (fun ds hl => by match ds, hl with | [d], _ => rfl) partlogNil_run hval hW

theorem partlogNil_holds : Rows.PartlogNilSaid :=
  OpenClaim.holds_of_wide 4 Tryz.f4 rfl rfl rfl rfl rfl rfl rfl ⟨rfl, rfl, rfl, rfl, rfl⟩ rfl rfl rfl rfl rfl (by kernel_rfl) Tryz.func4 (by kernel_rfl)
    (of_decide_eq_true (by kernel_rfl)) (by unfold Func.isWrapper; first | (rw [if_pos (by decide +kernel)]; kernel_rfl) | (rw [if_neg (by decide +kernel)]; exact ⟨rfl, rfl⟩))
    (fun os started H enc _ => partlogNil_lifted os started H enc)

end Go.Proofs.YtbgkljpbemehiaaGreat
