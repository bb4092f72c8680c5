/- awake, run by the kernel. -/
import Derived.Test.YtnhodgonmceojaaFA
import Derived.Test.YtnhodgonmceojaaFB
namespace Go.Proofs.Ytnhodgonmceojaa.Sh
open Go.RowKit
def T12 : List (FuncId × XF) := [(12, X12), (14, X14), (29, X29), (31, X31), (32, X32), (33, X33), (34, X34), (35, X35), (36, X36), (42, X42), (43, X43), (44, X44), (45, X45), (46, X46), (47, X47), (48, X48), (49, X49), (50, X50), (51, X51), (52, X52), (53, X53), (54, X54), (55, X55), (56, X56), (57, X57), (58, X58), (59, X59), (60, X60), (76, X76), (77, X77), (78, X78), (79, X79), (80, X80), (81, X81)]
theorem tok12 : TOk Try.prog T12 := by
  simp only [TOk, T12, List.forall_mem_cons]
  exact ⟨fok12, fok14, fok29, fok31, fok32, fok33, fok34, fok35, fok36, fok42, fok43, fok44, fok45, fok46, fok47, fok48, fok49, fok50, fok51, fok52, fok53, fok54, fok55, fok56, fok57, fok58, fok59, fok60, fok76, fok77, fok78, fok79, fok80, fok81, fun _ h => by cases h⟩
theorem run12 : (callX T12 (exec Try.prog T12 5000) .nil 12 [] ⟨.leaf, 0⟩).map (·.1) = some (.bool true) := by kernel_rfl
theorem awake12 (Γ : YEnv) (m : Mem) : ACalls Try.prog Γ 12 [] m (fun v' m' => v' = .bool true ∧ m' = m) := acalls_closed tok12 rfl run12 Γ m
end Go.Proofs.Ytnhodgonmceojaa.Sh
