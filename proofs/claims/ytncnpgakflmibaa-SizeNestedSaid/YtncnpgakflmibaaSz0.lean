/- The closed calls. -/
import Derived.Test.YtncnpgakflmibaaAi2
import Derived.Test.YtncnpgakflmibaaCode
import Derived.KernelRfl
namespace Go.Proofs.Ytncnpgakflmibaa.Ai
open C
theorem awake_spec : Call env K.quoinlaw13_awake [] [] = some ⟨.bool true, [], false, false⟩ := Call_closed (k := 300) (by kernel_rfl)
def initial : List Int := [1, 0, 0, 0, 3, 0, 0, 0, 0, 0, 0, 0, 0, 1, 0, 1, 0, 0, 0, 0, 0, 0, 0, 1, 0, 1, 0, 1, 0, 1, 0, 0, 0, 0, 0, 0, 0, 0, 0, 0, 1, 0, 1280]
theorem initial_spec : Call env K.quoinref4_Initial [] [] = some ⟨.agg (initial.map (.int .i64)), [], false, false⟩ := Call_closed (k := 300) (by kernel_rfl)
end Go.Proofs.Ytncnpgakflmibaa.Ai
